/- Merged by a program of this session's own (wip/print/merge.py): X25, X61, X34, X55, X120, X69, X70, X71, X72, X17, X24, X83, PBase, X58, PVec, X27, PInv, X53. No law stands here; conditions: none. -/
import Derived.Test.YtdlbmbijobcljaaDoorMA
import Derived.Test.YtdlbmbijobcljaaDoorMB
import Derived.Test.YtdlbmbijobcljaaDoorMK
namespace Go.Proofs.YtdlbmbijobcljaaDoor.X
open Go.RowKit Go.Proofs.YtdlbmbijobcljaaDoorW.PrintWords Go.Proofs.YtdlbmbijobcljaaDoorW.PrintLast Go.Proofs.YtdlbmbijobcljaaDoorW.PrintMore
attribute [local go_sem] max2_int min2_int max_two min_two max_three min_three max_four min_four   -- for this text's walks alone
set_option linter.unusedVariables false
set_option linter.unusedSimpArgs false
/-! ### earshotref02_All: function 25 -/
def earshotref02_All.l0 : Nat → List Int → Int → Int → Int → Option (Bool)
 | 0, _, _, _, _ => none
 | k + 1, x0, x1, x2, x7 => if x7 < (x0.length : Int) then (if 0 ≤ x7 then (if (rd x0 x7) < x1 then (some false) else (if (rd x0 x7) > x2 then (some false) else (earshotref02_All.l0 k x0 x1 x2 (wrap64 (x7 + 1))))) else (none)) else (some true)
def earshotref02_All.f (k : Nat) (l0 : List Int) (a1 : Int) (a2 : Int) : Option (Bool) := earshotref02_All.l0 k l0 a1 a2 0
theorem earshotref02_All.mono_l : ∀ k, (∀ y0 y1 y2 y3, LeO (earshotref02_All.l0 k y0 y1 y2 y3) (earshotref02_All.l0 (k + 1) y0 y1 y2 y3))
 | 0 => fun _ _ _ _ r h => by simp [earshotref02_All.l0] at h
 | k + 1 => by
  have ih0 := earshotref02_All.mono_l k
  ·intro y0 y1 y2 y3
   unfold earshotref02_All.l0
   repeat' first
   | (with_reducible exact ih0 _ _ _ _)
   | (with_reducible exact LeO.refl _)
   | (with_reducible exact LeO.none _)
   | (with_reducible refine LeO.ite ?_ ?_)
   | (with_reducible refine LeO.bind ?_ (fun _ => ?_))
   | exact ih0 _ _ _ _
   | exact LeO.none _
   | refine LeO.ite ?_ ?_
   | refine LeO.bind ?_ (fun _ => ?_)
theorem earshotref02_All.mono : ∀ a0 a1 a2 k, LeO (earshotref02_All.f k a0 a1 a2) (earshotref02_All.f (k + 1) a0 a1 a2) := by
 intro a0 a1 a2 k
 have ih0 := earshotref02_All.mono_l k
 unfold earshotref02_All.f
 repeat' first
   | (with_reducible exact ih0 _ _ _ _)
   | (with_reducible exact LeO.refl _)
   | (with_reducible exact LeO.none _)
   | (with_reducible refine LeO.ite ?_ ?_)
   | (with_reducible refine LeO.bind ?_ (fun _ => ?_))
   | exact ih0 _ _ _ _
   | exact LeO.none _
   | refine LeO.ite ?_ ?_
   | refine LeO.bind ?_ (fun _ => ?_)
set_option maxHeartbeats 8000000 in
set_option maxRecDepth 100000 in
theorem earshotref02_All.calls (k : Nat) (A0 : Option Addr) (c0 : Nat) (l0 : List Int) (a1 : Int) (a2 : Int) (r : Bool) (w : World) (hr0 : Kd.C (Kd.int .i64) w A0 l0.length l0) (hc0 : l0.length ≤ c0) (h : earshotref02_All.f k l0 a1 a2 = some r) :
  Calls Tryd.prog 25 #[.slice A0 l0.length c0, .int .i64 a1, .int .i64 a2] w fun e w' => e = .returned (.bool r) ∧ Drawn0 w w' := by
 have HR0 := Aside0.mk hr0
 have HC0 := Aside0.mk hc0
 clear hr0 hc0
 have H : (earshotref02_All.l0 k l0 a1 a2 0) = some r := h
 clear h
 have H' := Aside0.mk H
 clear H
 go_enter Tryd.func25, Tryd.ntmps25
 go_wp2
 go_loopg [7] k (fun kq v7 w' => ∃ (x7_1 : Int), v7 = .int .i64 x7_1 ∧ Aside0 (earshotref02_All.l0 kq l0 a1 a2 x7_1 = some r) ∧ Aside0 (kq ≤ k) ∧ Drawn0 w w')
 case atStart => exact ⟨(0), (by first | rfl | (simp; done) | (simp only [i64_w]; done) | (simp [*]; done)), H', ⟨Nat.le_refl _⟩, by repeat (first | exact Drawn0.refl _ | apply Drawn0.step)⟩
 case round =>
  clear H'
  try clear c2
  try clear p2
  obtain ⟨x7_1, rfl, HA, HK1, ⟨m1, rfl⟩⟩ := hrel
  cases gk with
  | zero => exact absurd HA.out (by simp [earshotref02_All.l0])
  | succ k1 =>
   have H := HA.out
   clear HA
   simp only [earshotref02_All.l0] at H
   by_cases c4 : x7_1 < (l0.length : Int)
   ·rw [if_pos c4] at H
    have c4b0 := decide_eq_true c4
    clear c4
    by_cases c5 : 0 ≤ x7_1
    ·rw [if_pos c5] at H
     have c5b0 := decide_eq_true c5
     clear c5
     by_cases c6 : (rd l0 x7_1) < a1
     ·rw [if_pos c6] at H
      have c6b0 := decide_eq_true c6
      clear c6
      obtain rfl := Option.some.inj H
      have p101 : 0 ≤ (x7_1 : Int) := of_decide_eq_true tA
      have q101 : x7_1 < (l0.length : Int) := of_decide_eq_true tA
      obtain ⟨ad101, e101, hx101_0⟩ := Kd.at_int HR0.out x7_1 p101 q101
      cases e101
      replace p101 := eq_true p101
      replace q101 := eq_true q101
      go_wp2
      go_ret
      exact ⟨by first | rfl | (simp; done) | (simp [*]; done), by repeat (first | exact Drawn0.refl _ | apply Drawn0.step)⟩
     ·rw [if_neg c6] at H
      have c6b0 := decide_eq_false c6
      clear c6
      by_cases c7 : (rd l0 x7_1) > a2
      ·rw [if_pos c7] at H
       have c7b0 : decide (a2 < (rd l0 x7_1)) = true := decide_eq_true c7
       clear c7
       obtain rfl := Option.some.inj H
       have p101 : 0 ≤ (x7_1 : Int) := of_decide_eq_true tA
       have q101 : x7_1 < (l0.length : Int) := of_decide_eq_true tA
       obtain ⟨ad101, e101, hx101_0⟩ := Kd.at_int HR0.out x7_1 p101 q101
       cases e101
       replace p101 := eq_true p101
       replace q101 := eq_true q101
       have p102 : 0 ≤ (x7_1 : Int) := of_decide_eq_true tA
       have q102 : x7_1 < (l0.length : Int) := of_decide_eq_true tA
       obtain ⟨ad102, e102, hx102_0⟩ := Kd.at_int HR0.out x7_1 p102 q102
       obtain rfl : ad101 = ad102 := (by injection e102)
       replace p102 := eq_true p102
       replace q102 := eq_true q102
       go_wp2
       go_ret
       exact ⟨by first | rfl | (simp; done) | (simp [*]; done), by repeat (first | exact Drawn0.refl _ | apply Drawn0.step)⟩
      ·rw [if_neg c7] at H
       have c7b0 : decide (a2 < (rd l0 x7_1)) = false := decide_eq_false c7
       clear c7
       have H' := Aside0.mk H
       clear H
       have p101 : 0 ≤ (x7_1 : Int) := of_decide_eq_true tA
       have q101 : x7_1 < (l0.length : Int) := of_decide_eq_true tA
       obtain ⟨ad101, e101, hx101_0⟩ := Kd.at_int HR0.out x7_1 p101 q101
       cases e101
       replace p101 := eq_true p101
       replace q101 := eq_true q101
       have p102 : 0 ≤ (x7_1 : Int) := of_decide_eq_true tA
       have q102 : x7_1 < (l0.length : Int) := of_decide_eq_true tA
       obtain ⟨ad102, e102, hx102_0⟩ := Kd.at_int HR0.out x7_1 p102 q102
       obtain rfl : ad101 = ad102 := (by injection e102)
       replace p102 := eq_true p102
       replace q102 := eq_true q102
       go_wp2
       go_roundg k1
       case measure => have := HK1.out; omega
       case rel => exact ⟨(wrap64 (x7_1 + 1)), (by first | rfl | (simp; done) | (simp only [i64_w]; done) | (simp [*]; done)), H', ⟨by have := HK1.out; omega⟩, by repeat (first | exact Drawn0.refl _ | apply Drawn0.step)⟩
    ·rw [if_neg c5] at H
     exact absurd H (by simp)
   ·rw [if_neg c4] at H
    have c4b0 := decide_eq_false c4
    clear c4
    obtain rfl := Option.some.inj H
    go_wp2
    go_ret
    exact ⟨by first | rfl | (simp; done) | (simp [*]; done), by repeat (first | exact Drawn0.refl _ | apply Drawn0.step)⟩

/-! ### earshotref03_Vectors: function 61 -/
def earshotref03_Vectors.l0 : Nat → List (List Int) → Int → Option (Bool)
 | 0, _, _ => none
 | k + 1, x0, x3 => if x3 < (x0.length : Int) then (if 0 ≤ x3 then (if ((rd_L2 x0 x3).length : Int) < 1 then (some false) else (if ((rd_L2 x0 x3).length : Int) > 64 then (some false) else (if 0 < (x0.length : Int) then (if ((rd_L2 x0 x3).length : Int) = ((rd_L2 x0 0).length : Int) then ((earshotref02_All.f k (rd_L2 x0 x3) (-1048576) 1048576).bind fun t106 => (if t106 = true then (earshotref03_Vectors.l0 k x0 (wrap64 (x3 + 1))) else (some false))) else (some false)) else (none)))) else (none)) else (some true)
def earshotref03_Vectors.f (k : Nat) (l0 : List (List Int)) : Option (Bool) := earshotref03_Vectors.l0 k l0 0
theorem earshotref03_Vectors.mono_l : ∀ k, (∀ y0 y1, LeO (earshotref03_Vectors.l0 k y0 y1) (earshotref03_Vectors.l0 (k + 1) y0 y1))
 | 0 => fun _ _ r h => by simp [earshotref03_Vectors.l0] at h
 | k + 1 => by
  have ih0 := earshotref03_Vectors.mono_l k
  ·intro y0 y1
   unfold earshotref03_Vectors.l0
   repeat' first
   | (with_reducible exact ih0 _ _)
   | (with_reducible exact earshotref02_All.mono _ _ _ _)
   | (with_reducible exact LeO.refl _)
   | (with_reducible exact LeO.none _)
   | (with_reducible refine LeO.ite ?_ ?_)
   | (with_reducible refine LeO.bind ?_ (fun _ => ?_))
   | exact ih0 _ _
   | exact earshotref02_All.mono _ _ _ _
   | exact LeO.none _
   | refine LeO.ite ?_ ?_
   | refine LeO.bind ?_ (fun _ => ?_)
theorem earshotref03_Vectors.mono : ∀ a0 k, LeO (earshotref03_Vectors.f k a0) (earshotref03_Vectors.f (k + 1) a0) := by
 intro a0 k
 have ih0 := earshotref03_Vectors.mono_l k
 unfold earshotref03_Vectors.f
 repeat' first
   | (with_reducible exact ih0 _ _)
   | (with_reducible exact earshotref02_All.mono _ _ _ _)
   | (with_reducible exact LeO.refl _)
   | (with_reducible exact LeO.none _)
   | (with_reducible refine LeO.ite ?_ ?_)
   | (with_reducible refine LeO.bind ?_ (fun _ => ?_))
   | exact ih0 _ _
   | exact earshotref02_All.mono _ _ _ _
   | exact LeO.none _
   | refine LeO.ite ?_ ?_
   | refine LeO.bind ?_ (fun _ => ?_)
def earshotref03_Vectors.T4 : Bool × List (List Nat × List Nat) := (true, [([], []), ([], []), ([0, 1], [0, 1]), ([2], [2]), ([3], [3]), ([4], [4]), ([5], [5]), ([6], [6]), ([6], [6]), ([7, 8, 6], [6, 7, 8]), ([9, 6], [6, 9]), ([10, 6], [6, 10]), ([11, 6], [6, 11]), ([6, 12], [6, 12]), ([13, 6], [13]), ([14], [14]), ([14], [14]), ([15, 16, 14], [14, 15, 16]), ([17, 14], [14, 17]), ([18, 14], [14, 18]), ([14], [14]), ([20, 14], [14, 20]), ([21, 14], [14, 21]), ([22, 14], [14, 22]), ([19, 23, 14], [14, 19, 23]), ([14, 24], [14, 24]), ([25, 14], [25]), ([26], [26]), ([26], [26]), ([27, 28, 26], [26, 27, 28]), ([29, 26], [26, 29]), ([30, 26, 26], [26, 30]), ([31, 26], [26, 31]), ([26, 32], [26, 32])])
def earshotref03_Vectors.B4 : List Nat := [0, 0, 3, 7, 15, 31, 63, 127, 127, 511, 1023, 2047, 4095, 8191, 16383, 32767, 32767, 131071, 262143, 524287, 32767, 1081343, 3178495, 7372799, 16777215, 33554431, 67108863, 134217727, 134217727, 536870911, 1073741823, 2147483647, 4294967295, 8589934591]
theorem earshotref03_Vectors.tab4 : rtab .any (opsOf Tryd.f61 4) = earshotref03_Vectors.T4 := by kernel_rfl
theorem earshotref03_Vectors.bits4 : waitsOk earshotref03_Vectors.T4.2 earshotref03_Vectors.B4 = true := by kernel_rfl
set_option maxHeartbeats 8000000 in
set_option maxRecDepth 100000 in
theorem earshotref03_Vectors.calls (k : Nat) (A0 : Option Addr) (c0 : Nat) (l0 : List (List Int)) (r : Bool) (w : World) (hr0 : Kd.C (Kd.slice 3 (Kd.int .i64)) w A0 l0.length l0) (hc0 : l0.length ≤ c0) (h : earshotref03_Vectors.f k l0 = some r) :
  Calls Tryd.prog 61 #[.slice A0 l0.length c0] w fun e w' => e = .returned (.bool r) ∧ Below w.heap.size w w' := by
 have HR0 := Aside0.mk hr0
 have HC0 := Aside0.mk hc0
 clear hr0 hc0
 have HB := Aside0.mk (Below.refl w.heap.size w)
 have H : (earshotref03_Vectors.l0 k l0 0) = some r := h
 clear h
 have H' := Aside0.mk H
 clear H
 go_enter Tryd.func61, Tryd.ntmps61
 go_wp2
 go_loopg [3] k (fun kq v3 w' => ∃ (x3_1 : Int), v3 = .int .i64 x3_1 ∧ Aside0 (earshotref03_Vectors.l0 kq l0 x3_1 = some r) ∧ Aside0 (kq ≤ k) ∧ Aside0 (Below w.heap.size w w'))
 case atStart => exact ⟨(0), (by first | rfl | (simp; done) | (simp only [i64_w]; done) | (simp [*]; done)), H', ⟨Nat.le_refl _⟩, ⟨tB⟩⟩
 case round =>
  clear H'
  obtain ⟨x3_1, rfl, HA, HK1, HB⟩ := hrel
  cases gk with
  | zero => exact absurd HA.out (by simp [earshotref03_Vectors.l0])
  | succ k1 =>
   have H := HA.out
   clear HA
   simp only [earshotref03_Vectors.l0] at H
   by_cases c2 : x3_1 < (l0.length : Int)
   ·rw [if_pos c2] at H
    have c2b0 := decide_eq_true c2
    clear c2
    by_cases c3 : 0 ≤ x3_1
    ·rw [if_pos c3] at H
     have c3b0 := decide_eq_true c3
     clear c3
     by_cases c4 : ((rd_L2 l0 x3_1).length : Int) < 1
     ·rw [if_pos c4] at H
      have c4b0 := decide_eq_true c4
      have c4b1 : decide ((rd_L2 l0 x3_1).length < 1) = true := decide_eq_true (by omega)
      clear c4
      obtain rfl := Option.some.inj H
      try go_wp2
      replace HB := Aside0.mk (below_drew1 HB.out)
      have p101 : 0 ≤ (x3_1 : Int) := of_decide_eq_true tA
      have q101 : x3_1 < (l0.length : Int) := of_decide_eq_true tA
      obtain ⟨ad101, A101_0, c101_0, e101, hx101_0, hl101_0, hi101_0⟩ := at_L2 HR0.out x3_1 p101 q101
      have hw101_0 := hx101_0
      cases e101
      replace hx101_0 := (HB.out.cell (World.block_lt_of_cell? w _ hx101_0)).trans hx101_0
      have HR101_0 := Aside0.mk hi101_0
      have HC101_0 := Aside0.mk hl101_0
      clear hi101_0 hl101_0
      replace p101 := eq_true p101
      replace q101 := eq_true q101
      refine start_ (n := 34) (S := fun w' => w'.cell? (ad101.add (x3_1).toNat) = some (.slice A101_0 (rd_L2 l0 x3_1).length c101_0)) (ds := []) (bm 0 34) (by kernel_rfl) rfl rfl (((HB.out.cell (World.block_lt_of_cell? w _ hw101_0)).trans hw101_0)) (fun hHeld => ?_); refine with_tabW earshotref03_Vectors.tab4 earshotref03_Vectors.bits4 (fun HT_ HW_ => ?_)
      generalize wr.drew = w5 at HB HR101_0 hx101_0 hHeld ⊢
      refine pI 0 (some 10) (bm 1 34) HT_.out ?_
      refine pI 1 (some 11) (bm 2 34) HT_.out ?_
      refine pI 2 (some 12) (bm 3 34) HT_.out ?_
      refine tk1 3 (some 13) (bm 4 34) HT_.out HW_.out hHeld ?_
      refine pI 4 (some 14) (bm 5 34) HT_.out ?_
      refine pI 5 (some 15) (bm 6 34) HT_.out ?_
      refine pI 6 (some 16) (bm 7 34) HT_.out ?_
      refine pO 7 (some 17) (bm 8 34) HT_.out ?_
      refine pO 8 (some 18) (bm 9 34) HT_.out ?_
      refine pO 9 (some 19) (bm 10 34) HT_.out ?_
      refine pO 10 (some 20) (bm 11 34) HT_.out ?_
      refine pO 11 (some 21) (bm 12 34) HT_.out ?_
      refine pO 12 (some 22) (bm 13 34) HT_.out ?_
      refine pI 13 (some 23) (bm 14 34) HT_.out ?_
      refine pI 14 (some 24) (bm 15 34) HT_.out ?_
      refine pO 15 (some 25) (bm 16 34) HT_.out ?_
      refine pO 16 (some 26) (bm 17 34) HT_.out ?_
      refine pO 17 (some 27) (bm 18 34) HT_.out ?_
      refine pO 18 (some 28) (bm 19 34) HT_.out ?_
      refine pO 19 (some 29) (bm 20 34) HT_.out ?_
      refine pO 20 (some 30) (bm 21 34) HT_.out ?_
      refine pO 21 (some 31) (bm 22 34) HT_.out ?_
      refine pO 22 (some 32) (bm 23 34) HT_.out ?_
      refine pO 23 (some 33) (bm 24 34) HT_.out ?_
      refine pO 24 (some 34) (bm 25 34) HT_.out ?_
      refine pI 25 (some 35) (bm 26 34) HT_.out ?_
      refine pI 26 (some 36) (bm 27 34) HT_.out ?_
      refine pO 27 (some 37) (bm 28 34) HT_.out ?_
      refine pO 28 (some 38) (bm 29 34) HT_.out ?_
      refine pO 29 (some 39) (bm 30 34) HT_.out ?_
      refine pO 30 (some 40) (bm 31 34) HT_.out ?_
      refine pO 31 (some 41) (bm 32 34) HT_.out ?_
      refine pO 32 (some 42) (bm 33 34) HT_.out ?_
      refine pI 33 (some 43) (bm 34 34) HT_.out ?_
      refine done_ (done_of HT_.out (by kernel_rfl)) ?_
      try go_wp2
      go_ret
      exact ⟨by first | rfl | (simp [errW_none, errW_some] <;> rfl) | (simp [*, errW_none, errW_some] <;> rfl), tB⟩
     ·rw [if_neg c4] at H
      have c4b0 := decide_eq_false c4
      have c4b1 : decide ((rd_L2 l0 x3_1).length < 1) = false := decide_eq_false (by omega)
      clear c4
      by_cases c6 : ((rd_L2 l0 x3_1).length : Int) > 64
      ·rw [if_pos c6] at H
       have c6b0 : decide (64 < ((rd_L2 l0 x3_1).length : Int)) = true := decide_eq_true c6
       have c6b1 : decide (64 < (rd_L2 l0 x3_1).length) = true := decide_eq_true (by omega)
       clear c6
       obtain rfl := Option.some.inj H
       try go_wp2
       replace HB := Aside0.mk (below_drew1 HB.out)
       have p101 : 0 ≤ (x3_1 : Int) := of_decide_eq_true tA
       have q101 : x3_1 < (l0.length : Int) := of_decide_eq_true tA
       obtain ⟨ad101, A101_0, c101_0, e101, hx101_0, hl101_0, hi101_0⟩ := at_L2 HR0.out x3_1 p101 q101
       have hw101_0 := hx101_0
       cases e101
       replace hx101_0 := (HB.out.cell (World.block_lt_of_cell? w _ hx101_0)).trans hx101_0
       have HR101_0 := Aside0.mk hi101_0
       have HC101_0 := Aside0.mk hl101_0
       clear hi101_0 hl101_0
       replace p101 := eq_true p101
       replace q101 := eq_true q101
       have p102 : 0 ≤ (x3_1 : Int) := of_decide_eq_true tA
       have q102 : x3_1 < (l0.length : Int) := of_decide_eq_true tA
       obtain ⟨ad102, A102_0, c102_0, e102, hx102_0, hl102_0, hi102_0⟩ := at_L2 HR0.out x3_1 p102 q102
       have hw102_0 := hx102_0
       obtain rfl : ad101 = ad102 := (by injection e102)
       replace hx102_0 := (HB.out.cell (World.block_lt_of_cell? w _ hx102_0)).trans hx102_0
       have HR102_0 := Aside0.mk hi102_0
       have HC102_0 := Aside0.mk hl102_0
       clear hi102_0 hl102_0
       replace p102 := eq_true p102
       replace q102 := eq_true q102
       have ea_ := Option.some.inj (hx101_0.symm.trans hx102_0)
       injection ea_ with ea_ en_ ec_
       subst ea_
       subst ec_
       clear en_
       refine start_ (n := 34) (S := fun w' => w'.cell? (ad101.add (x3_1).toNat) = some (.slice A101_0 (rd_L2 l0 x3_1).length c101_0) ∧ w'.cell? (ad101.add (x3_1).toNat) = some (.slice A101_0 (rd_L2 l0 x3_1).length c101_0)) (ds := []) (bm 0 34) (by kernel_rfl) rfl rfl ⟨((HB.out.cell (World.block_lt_of_cell? w _ hw101_0)).trans hw101_0), ((HB.out.cell (World.block_lt_of_cell? w _ hw102_0)).trans hw102_0)⟩ (fun hHeld => ?_); refine with_tabW earshotref03_Vectors.tab4 earshotref03_Vectors.bits4 (fun HT_ HW_ => ?_)
       generalize wr.drew = w7 at HB HR101_0 HR102_0 hx101_0 hx102_0 hHeld ⊢
       refine pI 0 (some 10) (bm 1 34) HT_.out ?_
       refine pI 1 (some 11) (bm 2 34) HT_.out ?_
       refine pI 2 (some 12) (bm 3 34) HT_.out ?_
       refine tk2 3 (some 13) (bm 4 34) HT_.out HW_.out hHeld ?_
       refine pI 4 (some 14) (bm 5 34) HT_.out ?_
       refine pI 5 (some 15) (bm 6 34) HT_.out ?_
       refine pI 6 (some 16) (bm 7 34) HT_.out ?_
       refine pI 7 (some 17) (bm 8 34) HT_.out ?_
       refine pI 8 (some 18) (bm 9 34) HT_.out ?_
       refine pI 9 (some 19) (bm 10 34) HT_.out ?_
       refine tk2 10 (some 20) (bm 11 34) HT_.out HW_.out hHeld ?_
       refine pI 11 (some 21) (bm 12 34) HT_.out ?_
       refine pI 12 (some 22) (bm 13 34) HT_.out ?_
       refine pI 13 (some 23) (bm 14 34) HT_.out ?_
       refine pI 14 (some 24) (bm 15 34) HT_.out ?_
       refine pO 15 (some 25) (bm 16 34) HT_.out ?_
       refine pO 16 (some 26) (bm 17 34) HT_.out ?_
       refine pO 17 (some 27) (bm 18 34) HT_.out ?_
       refine pO 18 (some 28) (bm 19 34) HT_.out ?_
       refine pO 19 (some 29) (bm 20 34) HT_.out ?_
       refine pO 20 (some 30) (bm 21 34) HT_.out ?_
       refine pO 21 (some 31) (bm 22 34) HT_.out ?_
       refine pO 22 (some 32) (bm 23 34) HT_.out ?_
       refine pO 23 (some 33) (bm 24 34) HT_.out ?_
       refine pO 24 (some 34) (bm 25 34) HT_.out ?_
       refine pI 25 (some 35) (bm 26 34) HT_.out ?_
       refine pI 26 (some 36) (bm 27 34) HT_.out ?_
       refine pO 27 (some 37) (bm 28 34) HT_.out ?_
       refine pO 28 (some 38) (bm 29 34) HT_.out ?_
       refine pO 29 (some 39) (bm 30 34) HT_.out ?_
       refine pO 30 (some 40) (bm 31 34) HT_.out ?_
       refine pO 31 (some 41) (bm 32 34) HT_.out ?_
       refine pO 32 (some 42) (bm 33 34) HT_.out ?_
       refine pI 33 (some 43) (bm 34 34) HT_.out ?_
       refine done_ (done_of HT_.out (by kernel_rfl)) ?_
       try go_wp2
       go_ret
       exact ⟨by first | rfl | (simp [errW_none, errW_some] <;> rfl) | (simp [*, errW_none, errW_some] <;> rfl), tB⟩
      ·rw [if_neg c6] at H
       have c6b0 : decide (64 < ((rd_L2 l0 x3_1).length : Int)) = false := decide_eq_false c6
       have c6b1 : decide (64 < (rd_L2 l0 x3_1).length) = false := decide_eq_false (by omega)
       clear c6
       by_cases c8 : 0 < (l0.length : Int)
       ·rw [if_pos c8] at H
        have c8b0 := decide_eq_true c8
        have c8b1 : decide (0 < l0.length) = true := decide_eq_true (by omega)
        clear c8
        by_cases c9 : ((rd_L2 l0 x3_1).length : Int) = ((rd_L2 l0 0).length : Int)
        ·rw [if_pos c9] at H
         have c9b0 : (((rd_L2 l0 x3_1).length : Int) == ((rd_L2 l0 0).length : Int)) = true := beq_iff_eq.mpr c9
         have c9b1 : (((rd_L2 l0 x3_1).length : Int) != ((rd_L2 l0 0).length : Int)) = false := bne_eq_false_iff_eq.mpr c9
         have c9b2 : ((rd_L2 l0 x3_1).length == (rd_L2 l0 0).length) = true := by first | simpa using c9 | (simp at c9 ⊢; omega)
         clear c9
         replace H := Option.bind_eq_some_iff.mp H
         obtain ⟨t106, A100, H⟩ := H
         try dsimp only at H
         have A10 := Aside0.mk A100
         clear A100
         by_cases c11 : t106 = true
         ·subst c11
          have H1 : (earshotref03_Vectors.l0 k1 l0 (wrap64 (x3_1 + 1))) = some r := by rw [if_pos rfl] at H; exact H
          clear H
          have H := H1
          clear H1
          have H' := Aside0.mk H
          clear H
          try go_wp2
          replace HB := Aside0.mk (below_drew1 HB.out)
          have p101 : 0 ≤ (x3_1 : Int) := of_decide_eq_true tA
          have q101 : x3_1 < (l0.length : Int) := of_decide_eq_true tA
          obtain ⟨ad101, A101_0, c101_0, e101, hx101_0, hl101_0, hi101_0⟩ := at_L2 HR0.out x3_1 p101 q101
          have hw101_0 := hx101_0
          cases e101
          replace hx101_0 := (HB.out.cell (World.block_lt_of_cell? w _ hx101_0)).trans hx101_0
          have HR101_0 := Aside0.mk hi101_0
          have HC101_0 := Aside0.mk hl101_0
          clear hi101_0 hl101_0
          replace p101 := eq_true p101
          replace q101 := eq_true q101
          have p102 : 0 ≤ (x3_1 : Int) := of_decide_eq_true tA
          have q102 : x3_1 < (l0.length : Int) := of_decide_eq_true tA
          obtain ⟨ad102, A102_0, c102_0, e102, hx102_0, hl102_0, hi102_0⟩ := at_L2 HR0.out x3_1 p102 q102
          have hw102_0 := hx102_0
          obtain rfl : ad101 = ad102 := (by injection e102)
          replace hx102_0 := (HB.out.cell (World.block_lt_of_cell? w _ hx102_0)).trans hx102_0
          have HR102_0 := Aside0.mk hi102_0
          have HC102_0 := Aside0.mk hl102_0
          clear hi102_0 hl102_0
          replace p102 := eq_true p102
          replace q102 := eq_true q102
          have ea_ := Option.some.inj (hx101_0.symm.trans hx102_0)
          injection ea_ with ea_ en_ ec_
          subst ea_
          subst ec_
          clear en_
          have p103 : 0 ≤ (x3_1 : Int) := of_decide_eq_true tA
          have q103 : x3_1 < (l0.length : Int) := of_decide_eq_true tA
          obtain ⟨ad103, A103_0, c103_0, e103, hx103_0, hl103_0, hi103_0⟩ := at_L2 HR0.out x3_1 p103 q103
          have hw103_0 := hx103_0
          obtain rfl : ad101 = ad103 := (by injection e103)
          replace hx103_0 := (HB.out.cell (World.block_lt_of_cell? w _ hx103_0)).trans hx103_0
          have HR103_0 := Aside0.mk hi103_0
          have HC103_0 := Aside0.mk hl103_0
          clear hi103_0 hl103_0
          replace p103 := eq_true p103
          replace q103 := eq_true q103
          have ea_ := Option.some.inj (hx101_0.symm.trans hx103_0)
          injection ea_ with ea_ en_ ec_
          subst ea_
          subst ec_
          clear en_
          have p104 : 0 ≤ (0 : Int) := (by omega)
          have q104 : 0 < (l0.length : Int) := of_decide_eq_true tA
          obtain ⟨ad104, A104_0, c104_0, e104, hx104_0, hl104_0, hi104_0⟩ := at_L2 HR0.out 0 p104 q104
          have hw104_0 := hx104_0
          (try rw [show ((0 : Int)).toNat = 0 from rfl] at hw104_0)
          (try rw [show 0 * 1 = 0 from rfl] at hw104_0)
          (try rw [Addr.add_zero'] at hw104_0)
          obtain rfl : ad101 = ad104 := (by injection e104)
          have qi104 : (0 < l0.length) = True := eq_true (by omega)
          (try rw [show ((0 : Int)).toNat = 0 from rfl] at hx104_0)
          (try rw [Addr.add_zero'] at hx104_0)
          replace hx104_0 := (HB.out.cell (World.block_lt_of_cell? w _ hx104_0)).trans hx104_0
          have HR104_0 := Aside0.mk hi104_0
          have HC104_0 := Aside0.mk hl104_0
          clear hi104_0 hl104_0
          replace p104 := eq_true p104
          replace q104 := eq_true q104
          have p105 : 0 ≤ (x3_1 : Int) := of_decide_eq_true tA
          have q105 : x3_1 < (l0.length : Int) := of_decide_eq_true tA
          obtain ⟨ad105, A105_0, c105_0, e105, hx105_0, hl105_0, hi105_0⟩ := at_L2 HR0.out x3_1 p105 q105
          have hw105_0 := hx105_0
          obtain rfl : ad101 = ad105 := (by injection e105)
          replace hx105_0 := (HB.out.cell (World.block_lt_of_cell? w _ hx105_0)).trans hx105_0
          have HR105_0 := Aside0.mk hi105_0
          have HC105_0 := Aside0.mk hl105_0
          clear hi105_0 hl105_0
          replace p105 := eq_true p105
          replace q105 := eq_true q105
          have ea_ := Option.some.inj (hx101_0.symm.trans hx105_0)
          injection ea_ with ea_ en_ ec_
          subst ea_
          subst ec_
          clear en_
          refine start_ (n := 34) (S := fun w' => w'.cell? (ad101.add (x3_1).toNat) = some (.slice A101_0 (rd_L2 l0 x3_1).length c101_0) ∧ w'.cell? (ad101.add (x3_1).toNat) = some (.slice A101_0 (rd_L2 l0 x3_1).length c101_0) ∧ w'.cell? (ad101.add (x3_1).toNat) = some (.slice A101_0 (rd_L2 l0 x3_1).length c101_0) ∧ w'.cell? ad101 = some (.slice A104_0 (rd_L2 l0 0).length c104_0) ∧ w'.cell? (ad101.add (x3_1).toNat) = some (.slice A101_0 (rd_L2 l0 x3_1).length c101_0)) (ds := []) (bm 0 34) (by kernel_rfl) rfl rfl ⟨((HB.out.cell (World.block_lt_of_cell? w _ hw101_0)).trans hw101_0), ((HB.out.cell (World.block_lt_of_cell? w _ hw102_0)).trans hw102_0), ((HB.out.cell (World.block_lt_of_cell? w _ hw103_0)).trans hw103_0), ((HB.out.cell (World.block_lt_of_cell? w _ hw104_0)).trans hw104_0), ((HB.out.cell (World.block_lt_of_cell? w _ hw105_0)).trans hw105_0)⟩ (fun hHeld => ?_); refine with_tabW earshotref03_Vectors.tab4 earshotref03_Vectors.bits4 (fun HT_ HW_ => ?_)
          generalize wr.drew = w12 at HB HR101_0 HR102_0 HR103_0 HR104_0 HR105_0 hx101_0 hx102_0 hx103_0 hx104_0 hx105_0 hHeld ⊢
          refine pI 0 (some 10) (bm 1 34) HT_.out ?_
          refine pI 1 (some 11) (bm 2 34) HT_.out ?_
          refine pI 2 (some 12) (bm 3 34) HT_.out ?_
          refine tk5 3 (some 13) (bm 4 34) HT_.out HW_.out hHeld ?_
          refine pI 4 (some 14) (bm 5 34) HT_.out ?_
          refine pI 5 (some 15) (bm 6 34) HT_.out ?_
          refine pI 6 (some 16) (bm 7 34) HT_.out ?_
          refine pI 7 (some 17) (bm 8 34) HT_.out ?_
          refine pI 8 (some 18) (bm 9 34) HT_.out ?_
          refine pI 9 (some 19) (bm 10 34) HT_.out ?_
          refine tk5 10 (some 20) (bm 11 34) HT_.out HW_.out hHeld ?_
          refine pI 11 (some 21) (bm 12 34) HT_.out ?_
          refine pI 12 (some 22) (bm 13 34) HT_.out ?_
          refine pI 13 (some 23) (bm 14 34) HT_.out ?_
          refine pI 14 (some 24) (bm 15 34) HT_.out ?_
          refine pI 15 (some 25) (bm 16 34) HT_.out ?_
          refine pI 16 (some 26) (bm 17 34) HT_.out ?_
          refine pI 17 (some 27) (bm 18 34) HT_.out ?_
          refine pI 20 (some 30) (bq 1310719 34) HT_.out ?_
          refine pI 21 (some 31) (bq 3407871 34) HT_.out ?_
          refine tk5 18 (some 28) (bq 3670015 34) HT_.out HW_.out hHeld ?_
          refine pI 19 (some 29) (bm 22 34) HT_.out ?_
          refine tk5 22 (some 32) (bm 23 34) HT_.out HW_.out hHeld ?_
          refine pI 23 (some 33) (bm 24 34) HT_.out ?_
          refine pI 24 (some 34) (bm 25 34) HT_.out ?_
          refine pI 25 (some 35) (bm 26 34) HT_.out ?_
          refine pI 26 (some 36) (bm 27 34) HT_.out ?_
          refine pI 27 (some 37) (bm 28 34) HT_.out ?_
          refine pI 28 (some 38) (bm 29 34) HT_.out ?_
          refine pI 29 (some 39) (bm 30 34) HT_.out ?_
          refine tk5 30 (some 40) (bm 31 34) HT_.out HW_.out hHeld ?_
          refine one_ (i := 31) (N := some 41) (bm 32 34) rfl rfl (one_of HT_.out (by kernel_rfl)) (by decide) (fun K hK => ?_)
          refine goes_ Tryd.func25 (by kernel_rfl) rfl #[.slice A101_0 (rd_L2 l0 x3_1).length c101_0, .int .i64 (-1048576), .int .i64 1048576] (by rfl) rfl rfl tL ?_
          with_reducible refine (earshotref02_All.calls k1 _ _ (rd_L2 l0 x3_1) (-1048576) 1048576 true _ ?side1 ?side2 A10.out).mono ?_
          (case side1 => exact tC (Kd.C_below HR105_0.out HB.out))
          (case side2 => exact HC105_0.out)
          rintro e w' ⟨rfl, ⟨nd, rfl⟩⟩
          refine ⟨_, rfl, ?_⟩
          refine hK.out _ _ ⟨((HB.out.cell (World.block_lt_of_cell? w _ hw101_0)).trans hw101_0), ((HB.out.cell (World.block_lt_of_cell? w _ hw102_0)).trans hw102_0), ((HB.out.cell (World.block_lt_of_cell? w _ hw103_0)).trans hw103_0), ((HB.out.cell (World.block_lt_of_cell? w _ hw104_0)).trans hw104_0), ((HB.out.cell (World.block_lt_of_cell? w _ hw105_0)).trans hw105_0)⟩ (fun hHeld => ?_)
          clear hK K
          refine nm ?_
          refine pI 32 (some 42) (bm 33 34) HT_.out ?_
          refine pI 33 (some 43) (bm 34 34) HT_.out ?_
          refine done_ (done_of HT_.out (by kernel_rfl)) ?_
          try go_wp2
          go_roundg k1
          case measure => have := HK1.out; omega
          case rel => exact ⟨(wrap64 (x3_1 + 1)), (by first | rfl | (simp; done) | (simp only [i64_w]; done) | (simp [*]; done)), H', ⟨by have := HK1.out; omega⟩, ⟨tB⟩⟩
         ·replace c11 := Bool.eq_false_iff.mpr c11
          subst c11
          have H1 : (some false) = some r := by rw [if_neg (show ¬ (false = true) by decide)] at H; exact H
          clear H
          have H := H1
          clear H1
          obtain rfl := Option.some.inj H
          try go_wp2
          replace HB := Aside0.mk (below_drew1 HB.out)
          have p101 : 0 ≤ (x3_1 : Int) := of_decide_eq_true tA
          have q101 : x3_1 < (l0.length : Int) := of_decide_eq_true tA
          obtain ⟨ad101, A101_0, c101_0, e101, hx101_0, hl101_0, hi101_0⟩ := at_L2 HR0.out x3_1 p101 q101
          have hw101_0 := hx101_0
          cases e101
          replace hx101_0 := (HB.out.cell (World.block_lt_of_cell? w _ hx101_0)).trans hx101_0
          have HR101_0 := Aside0.mk hi101_0
          have HC101_0 := Aside0.mk hl101_0
          clear hi101_0 hl101_0
          replace p101 := eq_true p101
          replace q101 := eq_true q101
          have p102 : 0 ≤ (x3_1 : Int) := of_decide_eq_true tA
          have q102 : x3_1 < (l0.length : Int) := of_decide_eq_true tA
          obtain ⟨ad102, A102_0, c102_0, e102, hx102_0, hl102_0, hi102_0⟩ := at_L2 HR0.out x3_1 p102 q102
          have hw102_0 := hx102_0
          obtain rfl : ad101 = ad102 := (by injection e102)
          replace hx102_0 := (HB.out.cell (World.block_lt_of_cell? w _ hx102_0)).trans hx102_0
          have HR102_0 := Aside0.mk hi102_0
          have HC102_0 := Aside0.mk hl102_0
          clear hi102_0 hl102_0
          replace p102 := eq_true p102
          replace q102 := eq_true q102
          have ea_ := Option.some.inj (hx101_0.symm.trans hx102_0)
          injection ea_ with ea_ en_ ec_
          subst ea_
          subst ec_
          clear en_
          have p103 : 0 ≤ (x3_1 : Int) := of_decide_eq_true tA
          have q103 : x3_1 < (l0.length : Int) := of_decide_eq_true tA
          obtain ⟨ad103, A103_0, c103_0, e103, hx103_0, hl103_0, hi103_0⟩ := at_L2 HR0.out x3_1 p103 q103
          have hw103_0 := hx103_0
          obtain rfl : ad101 = ad103 := (by injection e103)
          replace hx103_0 := (HB.out.cell (World.block_lt_of_cell? w _ hx103_0)).trans hx103_0
          have HR103_0 := Aside0.mk hi103_0
          have HC103_0 := Aside0.mk hl103_0
          clear hi103_0 hl103_0
          replace p103 := eq_true p103
          replace q103 := eq_true q103
          have ea_ := Option.some.inj (hx101_0.symm.trans hx103_0)
          injection ea_ with ea_ en_ ec_
          subst ea_
          subst ec_
          clear en_
          have p104 : 0 ≤ (0 : Int) := (by omega)
          have q104 : 0 < (l0.length : Int) := of_decide_eq_true tA
          obtain ⟨ad104, A104_0, c104_0, e104, hx104_0, hl104_0, hi104_0⟩ := at_L2 HR0.out 0 p104 q104
          have hw104_0 := hx104_0
          (try rw [show ((0 : Int)).toNat = 0 from rfl] at hw104_0)
          (try rw [show 0 * 1 = 0 from rfl] at hw104_0)
          (try rw [Addr.add_zero'] at hw104_0)
          obtain rfl : ad101 = ad104 := (by injection e104)
          have qi104 : (0 < l0.length) = True := eq_true (by omega)
          (try rw [show ((0 : Int)).toNat = 0 from rfl] at hx104_0)
          (try rw [Addr.add_zero'] at hx104_0)
          replace hx104_0 := (HB.out.cell (World.block_lt_of_cell? w _ hx104_0)).trans hx104_0
          have HR104_0 := Aside0.mk hi104_0
          have HC104_0 := Aside0.mk hl104_0
          clear hi104_0 hl104_0
          replace p104 := eq_true p104
          replace q104 := eq_true q104
          have p105 : 0 ≤ (x3_1 : Int) := of_decide_eq_true tA
          have q105 : x3_1 < (l0.length : Int) := of_decide_eq_true tA
          obtain ⟨ad105, A105_0, c105_0, e105, hx105_0, hl105_0, hi105_0⟩ := at_L2 HR0.out x3_1 p105 q105
          have hw105_0 := hx105_0
          obtain rfl : ad101 = ad105 := (by injection e105)
          replace hx105_0 := (HB.out.cell (World.block_lt_of_cell? w _ hx105_0)).trans hx105_0
          have HR105_0 := Aside0.mk hi105_0
          have HC105_0 := Aside0.mk hl105_0
          clear hi105_0 hl105_0
          replace p105 := eq_true p105
          replace q105 := eq_true q105
          have ea_ := Option.some.inj (hx101_0.symm.trans hx105_0)
          injection ea_ with ea_ en_ ec_
          subst ea_
          subst ec_
          clear en_
          refine start_ (n := 34) (S := fun w' => w'.cell? (ad101.add (x3_1).toNat) = some (.slice A101_0 (rd_L2 l0 x3_1).length c101_0) ∧ w'.cell? (ad101.add (x3_1).toNat) = some (.slice A101_0 (rd_L2 l0 x3_1).length c101_0) ∧ w'.cell? (ad101.add (x3_1).toNat) = some (.slice A101_0 (rd_L2 l0 x3_1).length c101_0) ∧ w'.cell? ad101 = some (.slice A104_0 (rd_L2 l0 0).length c104_0) ∧ w'.cell? (ad101.add (x3_1).toNat) = some (.slice A101_0 (rd_L2 l0 x3_1).length c101_0)) (ds := []) (bm 0 34) (by kernel_rfl) rfl rfl ⟨((HB.out.cell (World.block_lt_of_cell? w _ hw101_0)).trans hw101_0), ((HB.out.cell (World.block_lt_of_cell? w _ hw102_0)).trans hw102_0), ((HB.out.cell (World.block_lt_of_cell? w _ hw103_0)).trans hw103_0), ((HB.out.cell (World.block_lt_of_cell? w _ hw104_0)).trans hw104_0), ((HB.out.cell (World.block_lt_of_cell? w _ hw105_0)).trans hw105_0)⟩ (fun hHeld => ?_); refine with_tabW earshotref03_Vectors.tab4 earshotref03_Vectors.bits4 (fun HT_ HW_ => ?_)
          generalize wr.drew = w13 at HB HR101_0 HR102_0 HR103_0 HR104_0 HR105_0 hx101_0 hx102_0 hx103_0 hx104_0 hx105_0 hHeld ⊢
          refine pI 0 (some 10) (bm 1 34) HT_.out ?_
          refine pI 1 (some 11) (bm 2 34) HT_.out ?_
          refine pI 2 (some 12) (bm 3 34) HT_.out ?_
          refine tk5 3 (some 13) (bm 4 34) HT_.out HW_.out hHeld ?_
          refine pI 4 (some 14) (bm 5 34) HT_.out ?_
          refine pI 5 (some 15) (bm 6 34) HT_.out ?_
          refine pI 6 (some 16) (bm 7 34) HT_.out ?_
          refine pI 7 (some 17) (bm 8 34) HT_.out ?_
          refine pI 8 (some 18) (bm 9 34) HT_.out ?_
          refine pI 9 (some 19) (bm 10 34) HT_.out ?_
          refine tk5 10 (some 20) (bm 11 34) HT_.out HW_.out hHeld ?_
          refine pI 11 (some 21) (bm 12 34) HT_.out ?_
          refine pI 12 (some 22) (bm 13 34) HT_.out ?_
          refine pI 13 (some 23) (bm 14 34) HT_.out ?_
          refine pI 14 (some 24) (bm 15 34) HT_.out ?_
          refine pI 15 (some 25) (bm 16 34) HT_.out ?_
          refine pI 16 (some 26) (bm 17 34) HT_.out ?_
          refine pI 17 (some 27) (bm 18 34) HT_.out ?_
          refine pI 20 (some 30) (bq 1310719 34) HT_.out ?_
          refine pI 21 (some 31) (bq 3407871 34) HT_.out ?_
          refine tk5 18 (some 28) (bq 3670015 34) HT_.out HW_.out hHeld ?_
          refine pI 19 (some 29) (bm 22 34) HT_.out ?_
          refine tk5 22 (some 32) (bm 23 34) HT_.out HW_.out hHeld ?_
          refine pI 23 (some 33) (bm 24 34) HT_.out ?_
          refine pI 24 (some 34) (bm 25 34) HT_.out ?_
          refine pI 25 (some 35) (bm 26 34) HT_.out ?_
          refine pI 26 (some 36) (bm 27 34) HT_.out ?_
          refine pI 27 (some 37) (bm 28 34) HT_.out ?_
          refine pI 28 (some 38) (bm 29 34) HT_.out ?_
          refine pI 29 (some 39) (bm 30 34) HT_.out ?_
          refine tk5 30 (some 40) (bm 31 34) HT_.out HW_.out hHeld ?_
          refine one_ (i := 31) (N := some 41) (bm 32 34) rfl rfl (one_of HT_.out (by kernel_rfl)) (by decide) (fun K hK => ?_)
          refine goes_ Tryd.func25 (by kernel_rfl) rfl #[.slice A101_0 (rd_L2 l0 x3_1).length c101_0, .int .i64 (-1048576), .int .i64 1048576] (by rfl) rfl rfl tL ?_
          with_reducible refine (earshotref02_All.calls k1 _ _ (rd_L2 l0 x3_1) (-1048576) 1048576 false _ ?side1 ?side2 A10.out).mono ?_
          (case side1 => exact tC (Kd.C_below HR105_0.out HB.out))
          (case side2 => exact HC105_0.out)
          rintro e w' ⟨rfl, ⟨nd, rfl⟩⟩
          refine ⟨_, rfl, ?_⟩
          refine hK.out _ _ ⟨((HB.out.cell (World.block_lt_of_cell? w _ hw101_0)).trans hw101_0), ((HB.out.cell (World.block_lt_of_cell? w _ hw102_0)).trans hw102_0), ((HB.out.cell (World.block_lt_of_cell? w _ hw103_0)).trans hw103_0), ((HB.out.cell (World.block_lt_of_cell? w _ hw104_0)).trans hw104_0), ((HB.out.cell (World.block_lt_of_cell? w _ hw105_0)).trans hw105_0)⟩ (fun hHeld => ?_)
          clear hK K
          refine nm ?_
          refine pI 32 (some 42) (bm 33 34) HT_.out ?_
          refine pI 33 (some 43) (bm 34 34) HT_.out ?_
          refine done_ (done_of HT_.out (by kernel_rfl)) ?_
          try go_wp2
          go_ret
          exact ⟨by first | rfl | (simp [errW_none, errW_some] <;> rfl) | (simp [*, errW_none, errW_some] <;> rfl), tB⟩
        ·rw [if_neg c9] at H
         have c9b0 : (((rd_L2 l0 x3_1).length : Int) == ((rd_L2 l0 0).length : Int)) = false := beq_eq_false_iff_ne.mpr c9
         have c9b1 : (((rd_L2 l0 x3_1).length : Int) != ((rd_L2 l0 0).length : Int)) = true := bne_iff_ne.mpr c9
         have c9b2 : ((rd_L2 l0 x3_1).length == (rd_L2 l0 0).length) = false := by first | simpa using c9 | (simp at c9 ⊢; omega)
         obtain rfl := Option.some.inj H
         try go_wp2
         replace HB := Aside0.mk (below_drew1 HB.out)
         have p101 : 0 ≤ (x3_1 : Int) := of_decide_eq_true tA
         have q101 : x3_1 < (l0.length : Int) := of_decide_eq_true tA
         obtain ⟨ad101, A101_0, c101_0, e101, hx101_0, hl101_0, hi101_0⟩ := at_L2 HR0.out x3_1 p101 q101
         have hw101_0 := hx101_0
         cases e101
         replace hx101_0 := (HB.out.cell (World.block_lt_of_cell? w _ hx101_0)).trans hx101_0
         have HR101_0 := Aside0.mk hi101_0
         have HC101_0 := Aside0.mk hl101_0
         clear hi101_0 hl101_0
         replace p101 := eq_true p101
         replace q101 := eq_true q101
         have p102 : 0 ≤ (x3_1 : Int) := of_decide_eq_true tA
         have q102 : x3_1 < (l0.length : Int) := of_decide_eq_true tA
         obtain ⟨ad102, A102_0, c102_0, e102, hx102_0, hl102_0, hi102_0⟩ := at_L2 HR0.out x3_1 p102 q102
         have hw102_0 := hx102_0
         obtain rfl : ad101 = ad102 := (by injection e102)
         replace hx102_0 := (HB.out.cell (World.block_lt_of_cell? w _ hx102_0)).trans hx102_0
         have HR102_0 := Aside0.mk hi102_0
         have HC102_0 := Aside0.mk hl102_0
         clear hi102_0 hl102_0
         replace p102 := eq_true p102
         replace q102 := eq_true q102
         have ea_ := Option.some.inj (hx101_0.symm.trans hx102_0)
         injection ea_ with ea_ en_ ec_
         subst ea_
         subst ec_
         clear en_
         have p103 : 0 ≤ (x3_1 : Int) := of_decide_eq_true tA
         have q103 : x3_1 < (l0.length : Int) := of_decide_eq_true tA
         obtain ⟨ad103, A103_0, c103_0, e103, hx103_0, hl103_0, hi103_0⟩ := at_L2 HR0.out x3_1 p103 q103
         have hw103_0 := hx103_0
         obtain rfl : ad101 = ad103 := (by injection e103)
         replace hx103_0 := (HB.out.cell (World.block_lt_of_cell? w _ hx103_0)).trans hx103_0
         have HR103_0 := Aside0.mk hi103_0
         have HC103_0 := Aside0.mk hl103_0
         clear hi103_0 hl103_0
         replace p103 := eq_true p103
         replace q103 := eq_true q103
         have ea_ := Option.some.inj (hx101_0.symm.trans hx103_0)
         injection ea_ with ea_ en_ ec_
         subst ea_
         subst ec_
         clear en_
         have p104 : 0 ≤ (0 : Int) := (by omega)
         have q104 : 0 < (l0.length : Int) := of_decide_eq_true tA
         obtain ⟨ad104, A104_0, c104_0, e104, hx104_0, hl104_0, hi104_0⟩ := at_L2 HR0.out 0 p104 q104
         have hw104_0 := hx104_0
         (try rw [show ((0 : Int)).toNat = 0 from rfl] at hw104_0)
         (try rw [show 0 * 1 = 0 from rfl] at hw104_0)
         (try rw [Addr.add_zero'] at hw104_0)
         obtain rfl : ad101 = ad104 := (by injection e104)
         have qi104 : (0 < l0.length) = True := eq_true (by omega)
         (try rw [show ((0 : Int)).toNat = 0 from rfl] at hx104_0)
         (try rw [Addr.add_zero'] at hx104_0)
         replace hx104_0 := (HB.out.cell (World.block_lt_of_cell? w _ hx104_0)).trans hx104_0
         have HR104_0 := Aside0.mk hi104_0
         have HC104_0 := Aside0.mk hl104_0
         clear hi104_0 hl104_0
         replace p104 := eq_true p104
         replace q104 := eq_true q104
         refine start_ (n := 34) (S := fun w' => w'.cell? (ad101.add (x3_1).toNat) = some (.slice A101_0 (rd_L2 l0 x3_1).length c101_0) ∧ w'.cell? (ad101.add (x3_1).toNat) = some (.slice A101_0 (rd_L2 l0 x3_1).length c101_0) ∧ w'.cell? (ad101.add (x3_1).toNat) = some (.slice A101_0 (rd_L2 l0 x3_1).length c101_0) ∧ w'.cell? ad101 = some (.slice A104_0 (rd_L2 l0 0).length c104_0)) (ds := []) (bm 0 34) (by kernel_rfl) rfl rfl ⟨((HB.out.cell (World.block_lt_of_cell? w _ hw101_0)).trans hw101_0), ((HB.out.cell (World.block_lt_of_cell? w _ hw102_0)).trans hw102_0), ((HB.out.cell (World.block_lt_of_cell? w _ hw103_0)).trans hw103_0), ((HB.out.cell (World.block_lt_of_cell? w _ hw104_0)).trans hw104_0)⟩ (fun hHeld => ?_); refine with_tabW earshotref03_Vectors.tab4 earshotref03_Vectors.bits4 (fun HT_ HW_ => ?_)
         generalize wr.drew = w14 at HB HR101_0 HR102_0 HR103_0 HR104_0 hx101_0 hx102_0 hx103_0 hx104_0 hHeld ⊢
         refine pI 0 (some 10) (bm 1 34) HT_.out ?_
         refine pI 1 (some 11) (bm 2 34) HT_.out ?_
         refine pI 2 (some 12) (bm 3 34) HT_.out ?_
         refine tk4 3 (some 13) (bm 4 34) HT_.out HW_.out hHeld ?_
         refine pI 4 (some 14) (bm 5 34) HT_.out ?_
         refine pI 5 (some 15) (bm 6 34) HT_.out ?_
         refine pI 6 (some 16) (bm 7 34) HT_.out ?_
         refine pI 7 (some 17) (bm 8 34) HT_.out ?_
         refine pI 8 (some 18) (bm 9 34) HT_.out ?_
         refine pI 9 (some 19) (bm 10 34) HT_.out ?_
         refine tk4 10 (some 20) (bm 11 34) HT_.out HW_.out hHeld ?_
         refine pI 11 (some 21) (bm 12 34) HT_.out ?_
         refine pI 12 (some 22) (bm 13 34) HT_.out ?_
         refine pI 13 (some 23) (bm 14 34) HT_.out ?_
         refine pI 14 (some 24) (bm 15 34) HT_.out ?_
         refine pI 15 (some 25) (bm 16 34) HT_.out ?_
         refine pI 16 (some 26) (bm 17 34) HT_.out ?_
         refine pI 17 (some 27) (bm 18 34) HT_.out ?_
         refine pI 20 (some 30) (bq 1310719 34) HT_.out ?_
         refine pI 21 (some 31) (bq 3407871 34) HT_.out ?_
         refine tk4 18 (some 28) (bq 3670015 34) HT_.out HW_.out hHeld ?_
         refine pI 19 (some 29) (bm 22 34) HT_.out ?_
         refine tk4 22 (some 32) (bm 23 34) HT_.out HW_.out hHeld ?_
         refine pI 23 (some 33) (bm 24 34) HT_.out ?_
         refine pI 24 (some 34) (bm 25 34) HT_.out ?_
         refine pI 25 (some 35) (bm 26 34) HT_.out ?_
         refine pI 26 (some 36) (bm 27 34) HT_.out ?_
         refine pO 27 (some 37) (bm 28 34) HT_.out ?_
         refine pO 28 (some 38) (bm 29 34) HT_.out ?_
         refine pO 29 (some 39) (bm 30 34) HT_.out ?_
         refine pO 30 (some 40) (bm 31 34) HT_.out ?_
         refine pO 31 (some 41) (bm 32 34) HT_.out ?_
         refine pO 32 (some 42) (bm 33 34) HT_.out ?_
         refine pI 33 (some 43) (bm 34 34) HT_.out ?_
         refine done_ (done_of HT_.out (by kernel_rfl)) ?_
         try go_wp2
         go_ret
         exact ⟨by first | rfl | (simp [errW_none, errW_some] <;> rfl) | (simp [*, errW_none, errW_some] <;> rfl), tB⟩
       ·rw [if_neg c8] at H
        exact absurd H (by simp)
    ·rw [if_neg c3] at H
     exact absurd H (by simp)
   ·rw [if_neg c2] at H
    have c2b0 := decide_eq_false c2
    clear c2
    obtain rfl := Option.some.inj H
    go_wp2
    go_ret
    exact ⟨by first | rfl | (simp [errW_none, errW_some] <;> rfl) | (simp [*, errW_none, errW_some] <;> rfl), tB⟩

/-! ### earshotref03_Book: function 34 -/
def earshotref03_Book.f (k : Nat) (l0 : List (List Int)) : Option (Bool) := if (l0.length : Int) ≥ 1 then (if (l0.length : Int) ≤ 256 then ((earshotref03_Vectors.f k l0).bind fun t101 => (some t101)) else (some false)) else (some false)
theorem earshotref03_Book.mono : ∀ a0 k, LeO (earshotref03_Book.f k a0) (earshotref03_Book.f (k + 1) a0) := by
 intro a0 k
 unfold earshotref03_Book.f
 repeat' first
   | (with_reducible exact earshotref03_Vectors.mono _ _)
   | (with_reducible exact LeO.refl _)
   | (with_reducible exact LeO.none _)
   | (with_reducible refine LeO.ite ?_ ?_)
   | (with_reducible refine LeO.bind ?_ (fun _ => ?_))
   | exact earshotref03_Vectors.mono _ _
   | exact LeO.none _
   | refine LeO.ite ?_ ?_
   | refine LeO.bind ?_ (fun _ => ?_)
set_option maxHeartbeats 8000000 in
set_option maxRecDepth 100000 in
theorem earshotref03_Book.calls (k : Nat) (A0 : Option Addr) (c0 : Nat) (l0 : List (List Int)) (r : Bool) (w : World) (hr0 : Kd.C (Kd.slice 3 (Kd.int .i64)) w A0 l0.length l0) (hc0 : l0.length ≤ c0) (h : earshotref03_Book.f k l0 = some r) :
  Calls Tryd.prog 34 #[.slice A0 l0.length c0] w fun e w' => e = .returned (.bool r) ∧ Below w.heap.size w w' := by
 have HR0 := Aside0.mk hr0
 have HC0 := Aside0.mk hc0
 clear hr0 hc0
 have HB := Aside0.mk (Below.refl w.heap.size w)
 have H : (if (l0.length : Int) ≥ 1 then (if (l0.length : Int) ≤ 256 then ((earshotref03_Vectors.f k l0).bind fun t101 => (some t101)) else (some false)) else (some false)) = some r := h
 clear h
 by_cases c2 : (l0.length : Int) ≥ 1
 ·rw [if_pos c2] at H
  have c2b0 : decide (1 ≤ (l0.length : Int)) = true := decide_eq_true c2
  have c2b1 : decide (1 ≤ l0.length) = true := decide_eq_true (by omega)
  clear c2
  by_cases c3 : (l0.length : Int) ≤ 256
  ·rw [if_pos c3] at H
   have c3b0 := decide_eq_true c3
   have c3b1 : decide (l0.length ≤ 256) = true := decide_eq_true (by omega)
   clear c3
   replace H := Option.bind_eq_some_iff.mp H
   obtain ⟨t101, A40, H⟩ := H
   try dsimp only at H
   have A4 := Aside0.mk A40
   clear A40
   obtain rfl := Option.some.inj H
   go_enter Tryd.func34, Tryd.ntmps34
   go_wp2_with (first | (go_at_call 61; (with_reducible refine (earshotref03_Vectors.calls k _ _ l0 t101 _ ?side1 ?side2 A4.out).mono ?_); (case side1 => exact tC HR0.out); (case side2 => exact HC0.out); rintro e w5 ⟨rfl, hb⟩; replace HB := Aside0.mk (below_step tB hb); (try clear hb); (try clear hb2); (try clear hk); (try clear hi)))
   go_ret
   exact ⟨by first | rfl | (simp [errW_none, errW_some] <;> rfl) | (simp [*, errW_none, errW_some] <;> rfl), tB⟩
  ·rw [if_neg c3] at H
   have c3b0 := decide_eq_false c3
   have c3b1 : decide (l0.length ≤ 256) = false := decide_eq_false (by omega)
   clear c3
   obtain rfl := Option.some.inj H
   go_enter Tryd.func34, Tryd.ntmps34
   go_wp2
   go_ret
   exact ⟨by first | rfl | (simp [errW_none, errW_some] <;> rfl) | (simp [*, errW_none, errW_some] <;> rfl), tB⟩
 ·rw [if_neg c2] at H
  have c2b0 : decide (1 ≤ (l0.length : Int)) = false := decide_eq_false c2
  have c2b1 : decide (1 ≤ l0.length) = false := decide_eq_false (by omega)
  clear c2
  obtain rfl := Option.some.inj H
  go_enter Tryd.func34, Tryd.ntmps34
  go_wp2
  go_ret
  exact ⟨by first | rfl | (simp [errW_none, errW_some] <;> rfl) | (simp [*, errW_none, errW_some] <;> rfl), tB⟩

/-! ### earshotlaw03_few: function 55 -/
mutual
def earshotlaw03_few.l0 : Nat → List (List Int) → Int → Int → Option (Bool)
 | 0, _, _, _ => none
 | k + 1, x0, x1, x5 => if x5 < (x0.length : Int) then (earshotlaw03_few.j1 k x0 x1 x5 (decide (x5 ≤ x1))) else (earshotlaw03_few.j1 k x0 x1 x5 false)
def earshotlaw03_few.j1 : Nat → List (List Int) → Int → Int → Bool → Option (Bool)
 | 0, _, _, _, _ => none
 | k + 1, x0, x1, x5, x14 => if x14 = true then (if 0 ≤ x5 then (if x5 < (x0.length : Int) then (if ((rd_L2 x0 x5).length : Int) > 70 then (some false) else (earshotlaw03_few.l0 k x0 x1 (wrap64 (x5 + 1)))) else (none)) else (none)) else (if (x0.length : Int) ≤ x1 then (some true) else (if (x0.length : Int) > 10000 then (some (decide ((x0.length : Int) < 20000))) else (some false)))
end
def earshotlaw03_few.f (k : Nat) (l0 : List (List Int)) (a1 : Int) : Option (Bool) := earshotlaw03_few.l0 k l0 a1 0
theorem earshotlaw03_few.mono_l : ∀ k, (∀ y0 y1 y2, LeO (earshotlaw03_few.l0 k y0 y1 y2) (earshotlaw03_few.l0 (k + 1) y0 y1 y2)) ∧ (∀ y0 y1 y2 y3, LeO (earshotlaw03_few.j1 k y0 y1 y2 y3) (earshotlaw03_few.j1 (k + 1) y0 y1 y2 y3))
 | 0 => ⟨fun _ _ _ r h => by simp [earshotlaw03_few.l0] at h, fun _ _ _ _ r h => by simp [earshotlaw03_few.j1] at h⟩
 | k + 1 => by
  obtain ⟨ih0, ih1⟩ := earshotlaw03_few.mono_l k
  refine ⟨?_, ?_⟩
  ·intro y0 y1 y2
   unfold earshotlaw03_few.l0
   repeat' first
   | (with_reducible exact ih0 _ _ _)
   | (with_reducible exact ih1 _ _ _ _)
   | (with_reducible exact LeO.refl _)
   | (with_reducible exact LeO.none _)
   | (with_reducible refine LeO.ite ?_ ?_)
   | (with_reducible refine LeO.bind ?_ (fun _ => ?_))
   | exact ih0 _ _ _
   | exact ih1 _ _ _ _
   | exact LeO.none _
   | refine LeO.ite ?_ ?_
   | refine LeO.bind ?_ (fun _ => ?_)
  ·intro y0 y1 y2 y3
   unfold earshotlaw03_few.j1
   repeat' first
   | (with_reducible exact ih0 _ _ _)
   | (with_reducible exact ih1 _ _ _ _)
   | (with_reducible exact LeO.refl _)
   | (with_reducible exact LeO.none _)
   | (with_reducible refine LeO.ite ?_ ?_)
   | (with_reducible refine LeO.bind ?_ (fun _ => ?_))
   | exact ih0 _ _ _
   | exact ih1 _ _ _ _
   | exact LeO.none _
   | refine LeO.ite ?_ ?_
   | refine LeO.bind ?_ (fun _ => ?_)
theorem earshotlaw03_few.mono : ∀ a0 a1 k, LeO (earshotlaw03_few.f k a0 a1) (earshotlaw03_few.f (k + 1) a0 a1) := by
 intro a0 a1 k
 obtain ⟨ih0, ih1⟩ := earshotlaw03_few.mono_l k
 unfold earshotlaw03_few.f
 repeat' first
   | (with_reducible exact ih0 _ _ _)
   | (with_reducible exact ih1 _ _ _ _)
   | (with_reducible exact LeO.refl _)
   | (with_reducible exact LeO.none _)
   | (with_reducible refine LeO.ite ?_ ?_)
   | (with_reducible refine LeO.bind ?_ (fun _ => ?_))
   | exact ih0 _ _ _
   | exact ih1 _ _ _ _
   | exact LeO.none _
   | refine LeO.ite ?_ ?_
   | refine LeO.bind ?_ (fun _ => ?_)
set_option maxHeartbeats 8000000 in
set_option maxRecDepth 100000 in
theorem earshotlaw03_few.calls (k : Nat) (A0 : Option Addr) (c0 : Nat) (l0 : List (List Int)) (a1 : Int) (r : Bool) (w : World) (hr0 : Kd.C (Kd.slice 3 (Kd.int .i64)) w A0 l0.length l0) (hc0 : l0.length ≤ c0) (h : earshotlaw03_few.f k l0 a1 = some r) :
  Calls Tryd.prog 55 #[.slice A0 l0.length c0, .int .i64 a1] w fun e w' => e = .returned (.bool r) ∧ Drawn0 w w' := by
 have HR0 := Aside0.mk hr0
 have HC0 := Aside0.mk hc0
 clear hr0 hc0
 have H : (earshotlaw03_few.l0 k l0 a1 0) = some r := h
 clear h
 have H' := Aside0.mk H
 clear H
 go_enter Tryd.func55, Tryd.ntmps55
 go_wp2
 go_loopg [5] k (fun kq v5 w' => ∃ (x5_1 : Int), v5 = .int .i64 x5_1 ∧ Aside0 (earshotlaw03_few.l0 kq l0 a1 x5_1 = some r) ∧ Aside0 (kq ≤ k) ∧ Drawn0 w w')
 case atStart => exact ⟨(0), (by first | rfl | (simp; done) | (simp only [i64_w]; done) | (simp [*]; done)), H', ⟨Nat.le_refl _⟩, by repeat (first | exact Drawn0.refl _ | apply Drawn0.step)⟩
 case round =>
  clear H'
  try clear p2
  obtain ⟨x5_1, rfl, HA, HK1, ⟨m1, rfl⟩⟩ := hrel
  cases gk with
  | zero => exact absurd HA.out (by simp [earshotlaw03_few.l0])
  | succ k1 =>
   have H := HA.out
   clear HA
   simp only [earshotlaw03_few.l0] at H
   have HC3 := Aside0.mk H
   clear H
   go_upto_region 2 with (fail)
   go_cut [14] (fun v14 wc => ∃ (kq : Nat) (x14_2 : Bool), v14 = .bool x14_2 ∧ Aside0 (earshotlaw03_few.j1 kq l0 a1 x5_1 x14_2 = some r) ∧ Aside0 (kq ≤ k1) ∧ Drawn0 w wc)
   case first =>
    have H := HC3.out
    clear HC3
    by_cases c4 : x5_1 < (l0.length : Int)
    ·rw [if_pos c4] at H
     have c4b0 := decide_eq_true c4
     clear c4
     (first | rw [c4b0] | (simp only [i64_w, i32_w]; rw [c4b0]) | skip)
     have H' := Aside0.mk H
     clear H
     go_wp2
     go_meet
     case rel => exact ⟨_, (decide (x5_1 ≤ a1)), (by first | rfl | (simp; done) | (simp only [i64_w]; done) | (simp [*]; done)), H', ⟨by have := HK1.out; first | omega | exact Nat.le_refl _⟩, by repeat (first | exact Drawn0.refl _ | apply Drawn0.step)⟩
    ·rw [if_neg c4] at H
     have c4b0 := decide_eq_false c4
     clear c4
     (first | rw [c4b0] | (simp only [i64_w, i32_w]; rw [c4b0]) | skip)
     have H' := Aside0.mk H
     clear H
     go_wp2
     go_meet
     case rel => exact ⟨_, (false), (by first | rfl | (simp; done) | (simp only [i64_w]; done) | (simp [*]; done)), H', ⟨by have := HK1.out; first | omega | exact Nat.le_refl _⟩, by repeat (first | exact Drawn0.refl _ | apply Drawn0.step)⟩
   case rest =>
    clear HC3
    try clear p2
    try clear c4
    try clear c4b0
    try clear p2
    obtain ⟨kq, x14_2, rfl, HA, HJ2, ⟨mc2, rfl⟩⟩ := hcut
    cases kq with
    | zero => exact absurd HA.out (by simp [earshotlaw03_few.j1])
    | succ kj2 =>
     have H := HA.out
     clear HA
     simp only [earshotlaw03_few.j1] at H
     by_cases c5 : x14_2 = true
     ·subst c5
      have H1 : (if 0 ≤ x5_1 then (if x5_1 < (l0.length : Int) then (if ((rd_L2 l0 x5_1).length : Int) > 70 then (some false) else (earshotlaw03_few.l0 kj2 l0 a1 (wrap64 (x5_1 + 1)))) else (none)) else (none)) = some r := by rw [if_pos rfl] at H; exact H
      clear H
      have H := H1
      clear H1
      by_cases c6 : 0 ≤ x5_1
      ·rw [if_pos c6] at H
       have c6b0 := decide_eq_true c6
       clear c6
       by_cases c7 : x5_1 < (l0.length : Int)
       ·rw [if_pos c7] at H
        have c7b0 := decide_eq_true c7
        clear c7
        by_cases c8 : ((rd_L2 l0 x5_1).length : Int) > 70
        ·rw [if_pos c8] at H
         have c8b0 : decide (70 < ((rd_L2 l0 x5_1).length : Int)) = true := decide_eq_true c8
         have c8b1 : decide (70 < (rd_L2 l0 x5_1).length) = true := decide_eq_true (by omega)
         clear c8
         obtain rfl := Option.some.inj H
         have p101 : 0 ≤ (x5_1 : Int) := of_decide_eq_true tA
         have q101 : x5_1 < (l0.length : Int) := of_decide_eq_true tA
         obtain ⟨ad101, A101_0, c101_0, e101, hx101_0, hl101_0, hi101_0⟩ := at_L2 HR0.out x5_1 p101 q101
         cases e101
         have HR101_0 := Aside0.mk hi101_0
         have HC101_0 := Aside0.mk hl101_0
         clear hi101_0 hl101_0
         replace p101 := eq_true p101
         replace q101 := eq_true q101
         go_wp2
         go_ret
         exact ⟨by first | rfl | (simp; done) | (simp [*]; done), by repeat (first | exact Drawn0.refl _ | apply Drawn0.step)⟩
        ·rw [if_neg c8] at H
         have c8b0 : decide (70 < ((rd_L2 l0 x5_1).length : Int)) = false := decide_eq_false c8
         have c8b1 : decide (70 < (rd_L2 l0 x5_1).length) = false := decide_eq_false (by omega)
         clear c8
         have H' := Aside0.mk H
         clear H
         have p101 : 0 ≤ (x5_1 : Int) := of_decide_eq_true tA
         have q101 : x5_1 < (l0.length : Int) := of_decide_eq_true tA
         obtain ⟨ad101, A101_0, c101_0, e101, hx101_0, hl101_0, hi101_0⟩ := at_L2 HR0.out x5_1 p101 q101
         cases e101
         have HR101_0 := Aside0.mk hi101_0
         have HC101_0 := Aside0.mk hl101_0
         clear hi101_0 hl101_0
         replace p101 := eq_true p101
         replace q101 := eq_true q101
         go_wp2
         go_roundg kj2
         case measure => have := HK1.out; have := HJ2.out; omega
         case rel => exact ⟨(wrap64 (x5_1 + 1)), (by first | rfl | (simp; done) | (simp only [i64_w]; done) | (simp [*]; done)), H', ⟨by have := HK1.out; have := HJ2.out; omega⟩, by repeat (first | exact Drawn0.refl _ | apply Drawn0.step)⟩
       ·rw [if_neg c7] at H
        exact absurd H (by simp)
      ·rw [if_neg c6] at H
       exact absurd H (by simp)
     ·replace c5 := Bool.eq_false_iff.mpr c5
      subst c5
      have H1 : (if (l0.length : Int) ≤ a1 then (some true) else (if (l0.length : Int) > 10000 then (some (decide ((l0.length : Int) < 20000))) else (some false))) = some r := by rw [if_neg (show ¬ (false = true) by decide)] at H; exact H
      clear H
      have H := H1
      clear H1
      by_cases c9 : (l0.length : Int) ≤ a1
      ·rw [if_pos c9] at H
       have c9b0 := decide_eq_true c9
       clear c9
       obtain rfl := Option.some.inj H
       go_wp2
       go_ret
       exact ⟨by first | rfl | (simp; done) | (simp [*]; done), by repeat (first | exact Drawn0.refl _ | apply Drawn0.step)⟩
      ·rw [if_neg c9] at H
       have c9b0 := decide_eq_false c9
       clear c9
       by_cases c10 : (l0.length : Int) > 10000
       ·rw [if_pos c10] at H
        have c10b0 : decide (10000 < (l0.length : Int)) = true := decide_eq_true c10
        have c10b1 : decide (10000 < l0.length) = true := decide_eq_true (by omega)
        clear c10
        obtain rfl := Option.some.inj H
        go_wp2
        go_ret
        exact ⟨by first | rfl | (simp; done) | (simp [*]; done), by repeat (first | exact Drawn0.refl _ | apply Drawn0.step)⟩
       ·rw [if_neg c10] at H
        have c10b0 : decide (10000 < (l0.length : Int)) = false := decide_eq_false c10
        have c10b1 : decide (10000 < l0.length) = false := decide_eq_false (by omega)
        clear c10
        obtain rfl := Option.some.inj H
        go_wp2
        go_ret
        exact ⟨by first | rfl | (simp; done) | (simp [*]; done), by repeat (first | exact Drawn0.refl _ | apply Drawn0.step)⟩

/-! ### feature_distance: function 120 -/
def feature_distance.l0 : Nat → List Int → List Int → Int → Int → Int → Int → Option (Int)
 | 0, _, _, _, _, _, _ => none
 | k + 1, x0, x1, x2, x7, x10, x11 => if x11 < x10 then (if 0 ≤ x11 then (if x11 < (x0.length : Int) then (if x11 < (x1.length : Int) then (if (wrap64 (x7 + (wrap64 ((wrap64 ((rd x0 x11) - (rd x1 x11))) * (wrap64 ((rd x0 x11) - (rd x1 x11))))))) ≥ x2 then (some (wrap64 (x7 + (wrap64 ((wrap64 ((rd x0 x11) - (rd x1 x11))) * (wrap64 ((rd x0 x11) - (rd x1 x11)))))))) else (feature_distance.l0 k x0 x1 x2 (wrap64 (x7 + (wrap64 ((wrap64 ((rd x0 x11) - (rd x1 x11))) * (wrap64 ((rd x0 x11) - (rd x1 x11))))))) x10 (wrap64 (x11 + 1)))) else (none)) else (none)) else (none)) else (some x7)
def feature_distance.f (k : Nat) (l0 : List Int) (l1 : List Int) (a2 : Int) : Option (Int) := feature_distance.l0 k l0 l1 a2 0 (l0.length : Int) 0
theorem feature_distance.mono_l : ∀ k, (∀ y0 y1 y2 y3 y4 y5, LeO (feature_distance.l0 k y0 y1 y2 y3 y4 y5) (feature_distance.l0 (k + 1) y0 y1 y2 y3 y4 y5))
 | 0 => fun _ _ _ _ _ _ r h => by simp [feature_distance.l0] at h
 | k + 1 => by
  have ih0 := feature_distance.mono_l k
  ·intro y0 y1 y2 y3 y4 y5
   unfold feature_distance.l0
   repeat' first
   | (with_reducible exact ih0 _ _ _ _ _ _)
   | (with_reducible exact LeO.refl _)
   | (with_reducible exact LeO.none _)
   | (with_reducible refine LeO.ite ?_ ?_)
   | (with_reducible refine LeO.bind ?_ (fun _ => ?_))
   | exact ih0 _ _ _ _ _ _
   | exact LeO.none _
   | refine LeO.ite ?_ ?_
   | refine LeO.bind ?_ (fun _ => ?_)
theorem feature_distance.mono : ∀ a0 a1 a2 k, LeO (feature_distance.f k a0 a1 a2) (feature_distance.f (k + 1) a0 a1 a2) := by
 intro a0 a1 a2 k
 have ih0 := feature_distance.mono_l k
 unfold feature_distance.f
 repeat' first
   | (with_reducible exact ih0 _ _ _ _ _ _)
   | (with_reducible exact LeO.refl _)
   | (with_reducible exact LeO.none _)
   | (with_reducible refine LeO.ite ?_ ?_)
   | (with_reducible refine LeO.bind ?_ (fun _ => ?_))
   | exact ih0 _ _ _ _ _ _
   | exact LeO.none _
   | refine LeO.ite ?_ ?_
   | refine LeO.bind ?_ (fun _ => ?_)
set_option maxHeartbeats 8000000 in
set_option maxRecDepth 100000 in
theorem feature_distance.calls (k : Nat) (A0 : Option Addr) (c0 : Nat) (l0 : List Int) (A1 : Option Addr) (c1 : Nat) (l1 : List Int) (a2 : Int) (r : Int) (w : World) (hr0 : Kd.C (Kd.int .i64) w A0 l0.length l0) (hc0 : l0.length ≤ c0) (hr1 : Kd.C (Kd.int .i64) w A1 l1.length l1) (hc1 : l1.length ≤ c1) (h : feature_distance.f k l0 l1 a2 = some r) :
  Calls Tryd.prog 120 #[.slice A0 l0.length c0, .slice A1 l1.length c1, .int .i64 a2] w fun e w' => e = .returned (.int .i64 r) ∧ Drawn0 w w' := by
 have HR0 := Aside0.mk hr0
 have HC0 := Aside0.mk hc0
 clear hr0 hc0
 have HR1 := Aside0.mk hr1
 have HC1 := Aside0.mk hc1
 clear hr1 hc1
 have H : (feature_distance.l0 k l0 l1 a2 0 (l0.length : Int) 0) = some r := h
 clear h
 have H' := Aside0.mk H
 clear H
 go_enter Tryd.func120, Tryd.ntmps120
 go_wp2
 repeat (go_quiet (fail); try go_wp2)
 go_loopg [7, 11] k (fun kq v7 v11 w' => ∃ (x7_1 : Int) (x11_1 : Int), v7 = .int .i64 x7_1 ∧ v11 = .int .i64 x11_1 ∧ Aside0 (feature_distance.l0 kq l0 l1 a2 x7_1 (l0.length : Int) x11_1 = some r) ∧ Aside0 (kq ≤ k) ∧ Drawn0 w w')
 case atStart => exact ⟨(0), (0), (by first | rfl | (simp; done) | (simp only [i64_w]; done) | (simp [*]; done)), (by first | rfl | (simp; done) | (simp only [i64_w]; done) | (simp [*]; done)), H', ⟨Nat.le_refl _⟩, by repeat (first | exact Drawn0.refl _ | apply Drawn0.step)⟩
 case round =>
  clear H'
  try clear c1
  try clear p2
  obtain ⟨x7_1, x11_1, rfl, rfl, HA, HK1, ⟨m1, rfl⟩⟩ := hrel
  cases gk with
  | zero => exact absurd HA.out (by simp [feature_distance.l0])
  | succ k1 =>
   have H := HA.out
   clear HA
   simp only [feature_distance.l0] at H
   by_cases c4 : x11_1 < (l0.length : Int)
   ·rw [if_pos c4] at H
    have c4b0 := decide_eq_true c4
    clear c4
    by_cases c5 : 0 ≤ x11_1
    ·rw [if_pos c5] at H
     have c5b0 := decide_eq_true c5
     clear c5
     by_cases c6 : x11_1 < (l0.length : Int)
     ·rw [if_pos c6] at H
      have c6b0 := decide_eq_true c6
      clear c6
      by_cases c7 : x11_1 < (l1.length : Int)
      ·rw [if_pos c7] at H
       have c7b0 := decide_eq_true c7
       clear c7
       by_cases c8 : (wrap64 (x7_1 + (wrap64 ((wrap64 ((rd l0 x11_1) - (rd l1 x11_1))) * (wrap64 ((rd l0 x11_1) - (rd l1 x11_1))))))) ≥ a2
       ·rw [if_pos c8] at H
        have c8b0 : decide (a2 ≤ (wrap64 (x7_1 + (wrap64 ((wrap64 ((rd l0 x11_1) - (rd l1 x11_1))) * (wrap64 ((rd l0 x11_1) - (rd l1 x11_1)))))))) = true := decide_eq_true c8
        clear c8
        obtain rfl := Option.some.inj H
        have p101 : 0 ≤ (x11_1 : Int) := of_decide_eq_true tA
        have q101 : x11_1 < (l0.length : Int) := of_decide_eq_true tA
        obtain ⟨ad101, e101, hx101_0⟩ := Kd.at_int HR0.out x11_1 p101 q101
        cases e101
        replace p101 := eq_true p101
        replace q101 := eq_true q101
        have p102 : 0 ≤ (x11_1 : Int) := of_decide_eq_true tA
        have q102 : x11_1 < (l1.length : Int) := of_decide_eq_true tA
        obtain ⟨ad102, e102, hx102_0⟩ := Kd.at_int HR1.out x11_1 p102 q102
        cases e102
        replace p102 := eq_true p102
        replace q102 := eq_true q102
        have p103 : 0 ≤ (x11_1 : Int) := of_decide_eq_true tA
        have q103 : x11_1 < (l0.length : Int) := of_decide_eq_true tA
        obtain ⟨ad103, e103, hx103_0⟩ := Kd.at_int HR0.out x11_1 p103 q103
        obtain rfl : ad101 = ad103 := (by injection e103)
        replace p103 := eq_true p103
        replace q103 := eq_true q103
        have p104 : 0 ≤ (x11_1 : Int) := of_decide_eq_true tA
        have q104 : x11_1 < (l1.length : Int) := of_decide_eq_true tA
        obtain ⟨ad104, e104, hx104_0⟩ := Kd.at_int HR1.out x11_1 p104 q104
        obtain rfl : ad102 = ad104 := (by injection e104)
        replace p104 := eq_true p104
        replace q104 := eq_true q104
        go_wp2
        repeat (go_quiet (fail); try go_wp2)
        go_ret
        exact ⟨by first | rfl | (simp; done) | (simp [*]; done), by repeat (first | exact Drawn0.refl _ | apply Drawn0.step)⟩
       ·rw [if_neg c8] at H
        have c8b0 : decide (a2 ≤ (wrap64 (x7_1 + (wrap64 ((wrap64 ((rd l0 x11_1) - (rd l1 x11_1))) * (wrap64 ((rd l0 x11_1) - (rd l1 x11_1)))))))) = false := decide_eq_false c8
        clear c8
        have H' := Aside0.mk H
        clear H
        have p101 : 0 ≤ (x11_1 : Int) := of_decide_eq_true tA
        have q101 : x11_1 < (l0.length : Int) := of_decide_eq_true tA
        obtain ⟨ad101, e101, hx101_0⟩ := Kd.at_int HR0.out x11_1 p101 q101
        cases e101
        replace p101 := eq_true p101
        replace q101 := eq_true q101
        have p102 : 0 ≤ (x11_1 : Int) := of_decide_eq_true tA
        have q102 : x11_1 < (l1.length : Int) := of_decide_eq_true tA
        obtain ⟨ad102, e102, hx102_0⟩ := Kd.at_int HR1.out x11_1 p102 q102
        cases e102
        replace p102 := eq_true p102
        replace q102 := eq_true q102
        have p103 : 0 ≤ (x11_1 : Int) := of_decide_eq_true tA
        have q103 : x11_1 < (l0.length : Int) := of_decide_eq_true tA
        obtain ⟨ad103, e103, hx103_0⟩ := Kd.at_int HR0.out x11_1 p103 q103
        obtain rfl : ad101 = ad103 := (by injection e103)
        replace p103 := eq_true p103
        replace q103 := eq_true q103
        have p104 : 0 ≤ (x11_1 : Int) := of_decide_eq_true tA
        have q104 : x11_1 < (l1.length : Int) := of_decide_eq_true tA
        obtain ⟨ad104, e104, hx104_0⟩ := Kd.at_int HR1.out x11_1 p104 q104
        obtain rfl : ad102 = ad104 := (by injection e104)
        replace p104 := eq_true p104
        replace q104 := eq_true q104
        go_wp2
        repeat (go_quiet (fail); try go_wp2)
        go_roundg k1
        case measure => have := HK1.out; omega
        case rel => exact ⟨(wrap64 (x7_1 + (wrap64 ((wrap64 ((rd l0 x11_1) - (rd l1 x11_1))) * (wrap64 ((rd l0 x11_1) - (rd l1 x11_1))))))), (wrap64 (x11_1 + 1)), (by first | rfl | (simp; done) | (simp only [i64_w]; done) | (simp [*]; done)), (by first | rfl | (simp; done) | (simp only [i64_w]; done) | (simp [*]; done)), H', ⟨by have := HK1.out; omega⟩, by repeat (first | exact Drawn0.refl _ | apply Drawn0.step)⟩
      ·rw [if_neg c7] at H
       exact absurd H (by simp)
     ·rw [if_neg c6] at H
      exact absurd H (by simp)
    ·rw [if_neg c5] at H
     exact absurd H (by simp)
   ·rw [if_neg c4] at H
    have c4b0 := decide_eq_false c4
    clear c4
    obtain rfl := Option.some.inj H
    go_wp2
    repeat (go_quiet (fail); try go_wp2)
    go_ret
    exact ⟨by first | rfl | (simp; done) | (simp [*]; done), by repeat (first | exact Drawn0.refl _ | apply Drawn0.step)⟩

/-! ### feature_Distance: function 69 -/
def feature_Distance.f (k : Nat) (l0 : List Int) (l1 : List Int) : Option (Int × Int) := (feature_vectors.f k (([l0, l1] : List (List Int)))).bind fun t104 => (if t104 = 0 then ((feature_distance.f k l0 l1 4611686018427387904).bind fun t105 => (some (t105, 0))) else (some (0, 2)))
theorem feature_Distance.mono : ∀ a0 a1 k, LeO (feature_Distance.f k a0 a1) (feature_Distance.f (k + 1) a0 a1) := by
 intro a0 a1 k
 unfold feature_Distance.f
 repeat' first
   | (with_reducible exact feature_distance.mono _ _ _ _)
   | (with_reducible exact feature_vectors.mono _ _)
   | (with_reducible exact LeO.refl _)
   | (with_reducible exact LeO.none _)
   | (with_reducible refine LeO.ite ?_ ?_)
   | (with_reducible refine LeO.bind ?_ (fun _ => ?_))
   | exact feature_distance.mono _ _ _ _
   | exact feature_vectors.mono _ _
   | exact LeO.none _
   | refine LeO.ite ?_ ?_
   | refine LeO.bind ?_ (fun _ => ?_)
set_option maxHeartbeats 8000000 in
set_option maxRecDepth 100000 in
theorem feature_Distance.calls (k : Nat) (P0_ : Nat → Prop) (A0 : Option Addr) (c0 : Nat) (l0 : List Int) (P1_ : Nat → Prop) (A1 : Option Addr) (c1 : Nat) (l1 : List Int) (r1 : Int) (r2 : Int) (w : World) (hs0 : Kd.V (Kd.int .i64) 3 w w.heap.size (fun k_ => P0_ k_) (.slice A0 l0.length c0) l0) (hs1 : Kd.V (Kd.int .i64) 3 w w.heap.size (fun k_ => P1_ k_) (.slice A1 l1.length c1) l1) (h : feature_Distance.f k l0 l1 = some (r1, r2)) :
  Calls Tryd.prog 69 #[.slice A0 l0.length c0, .slice A1 l1.length c1] w fun e w' => e = .returned (.tuple #[.int .i64 r1, .int .i64 r2]) ∧ Below w.heap.size w w' := by
 have HO0 := Aside0.mk (show Kd.V (Kd.int .i64) 3 w w.heap.size (fun k_ => ((P0_ k_ ∨ P1_ k_) ∨ w.heap.size ≤ k_)) (.slice A0 l0.length c0) l0 from Kd.V_mono hs0 (fun k_ hk => .inl (.inl hk)))
 have HO1 := Aside0.mk (show Kd.V (Kd.int .i64) 3 w w.heap.size (fun k_ => ((P0_ k_ ∨ P1_ k_) ∨ w.heap.size ≤ k_)) (.slice A1 l1.length c1) l1 from Kd.V_mono hs1 (fun k_ hk => .inl (.inr hk)))
 have HB := Aside0.mk (Below.refl w.heap.size w)
 have H : ((feature_vectors.f k (([l0, l1] : List (List Int)))).bind fun t104 => (if t104 = 0 then ((feature_distance.f k l0 l1 4611686018427387904).bind fun t105 => (some (t105, 0))) else (some (0, 2)))) = some (r1, r2) := h
 clear h
 obtain ⟨y101, hy101⟩ : ∃ y_ : List (List Int), y_ = (([l0, l1] : List (List Int))) := ⟨_, rfl⟩
 replace H : ((feature_vectors.f k y101).bind fun t104 => (if t104 = 0 then ((feature_distance.f k l0 l1 4611686018427387904).bind fun t105 => (some (t105, 0))) else (some (0, 2)))) = some (r1, r2) := by first | (rw [hy101]; with_reducible exact H) | (have H2_ := (Option.bind_some _ _).symm.trans H; rw [hy101]; with_reducible exact H2_) | (have H2_ := (Option.bind_some _ _).symm.trans H; with_reducible exact H2_) | with_reducible exact H | (rw [hy101]; exact H) | exact H
 have Ny101 := Aside0.mk hy101
 clear hy101
 replace H := Option.bind_eq_some_iff.mp H
 obtain ⟨t104, A30, H⟩ := H
 try dsimp only at H
 have A3 := Aside0.mk A30
 clear A30
 by_cases c4 : t104 = 0
 ·rw [if_pos c4] at H
  have c4b0 : (t104 == 0) = true := beq_iff_eq.mpr c4
  have c4b1 : (t104 != 0) = false := bne_eq_false_iff_eq.mpr c4
  clear c4
  replace H := Option.bind_eq_some_iff.mp H
  obtain ⟨t105, A50, H⟩ := H
  try dsimp only at H
  have A5 := Aside0.mk A50
  clear A50
  simp only [Option.some.injEq, Prod.mk.injEq] at H
  obtain ⟨rfl, rfl⟩ := H
  go_enter Tryd.func69, Tryd.ntmps69
  go_wp2_with (first | ((with_reducible refine gate_dst (N := 8) rfl ?_); refine Kd.N_lit (Kd.slice 3 (Kd.int .i64)) _ 22 ?hg (N' := 8) ?hd (xs := ([l0, l1] : List (List Int))) (inner := [.slice A0 l0.length c0, .slice A1 l1.length c1]) (ok := (fun k_ => ((P0_ k_ ∨ P1_ k_) ∨ w.heap.size ≤ k_))) (okp := (fun k_ => ((P0_ k_ ∨ P1_ k_) ∨ w.heap.size ≤ k_))) ?hr ?hp (fun _ hk => hk) ((show ∀ k_, w.heap.size ≤ k_ → (fun k_ => ((P0_ k_ ∨ P1_ k_) ∨ w.heap.size ≤ k_)) k_ from fun k_ hk => (.inr (Nat.le_trans (below_size tB) hk))) _ (Nat.le_refl _)) (Below.refl _ _) (Nat.le_refl _) (by simp) ?_; (case hd => rfl); (case hg => rfl); (case hr => first | (go_simp; done) | (go_simp; rfl)); (case hp => exact (Reps.one (show Kd.FK (Kd.slice 3 (Kd.int .i64)) _ _ l0 [.slice A0 l0.length c0] from (Kd.FK_slice_mk (Kd.V_reads' (Kd.V_mono (ok' := (fun k_ => ((P0_ k_ ∨ P1_ k_) ∨ w.heap.size ≤ k_))) (HO0.out) (fun k_ hk => hk))).2.1 (Kd.V_F (Kd.V_mono (ok' := (fun k_ => ((P0_ k_ ∨ P1_ k_) ∨ w.heap.size ≤ k_))) (HO0.out) (fun k_ hk => hk))))) (Reps.one (show Kd.FK (Kd.slice 3 (Kd.int .i64)) _ _ l1 [.slice A1 l1.length c1] from (Kd.FK_slice_mk (Kd.V_reads' (Kd.V_mono (ok' := (fun k_ => ((P0_ k_ ∨ P1_ k_) ∨ w.heap.size ≤ k_))) (HO1.out) (fun k_ hk => hk))).2.1 (Kd.V_F (Kd.V_mono (ok' := (fun k_ => ((P0_ k_ ∨ P1_ k_) ∨ w.heap.size ≤ k_))) (HO1.out) (fun k_ hk => hk))))) (Reps.none _ _)))); intro v102 w6 ho7 hb hg_ hnew_; clear hg_ hnew_; (first | rw [← Ny101.out] at ho7 | (simp only [Int.reduceToNat] at ho7; rw [← Ny101.out] at ho7)); replace HO0 := Aside0.mk (Kd.V_elder' (tV HO0.out) (Kd.N_base ho7) hb); replace HO1 := Aside0.mk (Kd.V_elder' (tV HO1.out) (Kd.N_base ho7) hb); have HO103 := Aside0.mk (Kd.N_lower ho7 (below_size tB)); replace HB := Aside0.mk (below_step tB hb); clear hb ho7; obtain ⟨Ao8, co8, eo8⟩ := Kd.N_slice HO103.out; subst eo8) | ((with_reducible refine gate_callee (f := 113) rfl ?_); refine goesL_ (some 9) rfl rfl Tryd.func113 (by kernel_rfl) rfl #[.slice Ao8 y101.length co8] rfl tL ?_; (with_reducible refine (feature_vectors.calls k _ _ y101 t104 _ ?side1 ?side2 A3.out).mono ?_); (case side1 => exact tC (Kd.N_reads' HO103.out).2.2); (case side2 => exact (Kd.N_reads' HO103.out).2.1); rintro e w9 ⟨rfl, hb⟩; refine ⟨_, rfl, ?_⟩; replace HO0 := Aside0.mk (Kd.V_below (tV HO0.out) hb); replace HO1 := Aside0.mk (Kd.V_below (tV HO1.out) hb); replace HO103 := Aside0.mk (Kd.N_below (tN HO103.out) hb); replace HB := Aside0.mk (below_step tB hb); (try clear hb); (try clear hb2); (try clear hk); (try clear hi)) | ((with_reducible refine gate_callee (f := 120) rfl ?_); refine goesL_ (some 13) rfl rfl Tryd.func120 (by kernel_rfl) rfl #[.slice A0 l0.length c0, .slice A1 l1.length c1, .int .i64 4611686018427387904] rfl tL ?_; (with_reducible refine (feature_distance.calls k _ _ l0 _ _ l1 4611686018427387904 t105 _ ?side1 ?side2 ?side3 ?side4 A5.out).mono ?_); (case side1 => exact tC (Kd.V_reads' HO0.out).2.2); (case side2 => exact (Kd.V_reads' HO0.out).2.1); (case side3 => exact tC (Kd.V_reads' HO1.out).2.2); (case side4 => exact (Kd.V_reads' HO1.out).2.1); rintro e w' ⟨rfl, ⟨nd, rfl⟩⟩; refine ⟨_, rfl, ?_⟩))
  go_ret2
  exact ⟨by first | rfl | (simp [errW_none, errW_some] <;> rfl) | (simp [*, errW_none, errW_some] <;> rfl), tB⟩
 ·rw [if_neg c4] at H
  have c4b0 : (t104 == 0) = false := beq_eq_false_iff_ne.mpr c4
  have c4b1 : (t104 != 0) = true := bne_iff_ne.mpr c4
  simp only [Option.some.injEq, Prod.mk.injEq] at H
  obtain ⟨rfl, rfl⟩ := H
  go_enter Tryd.func69, Tryd.ntmps69
  go_wp2_with (first | ((with_reducible refine gate_dst (N := 8) rfl ?_); refine Kd.N_lit (Kd.slice 3 (Kd.int .i64)) _ 22 ?hg (N' := 8) ?hd (xs := ([l0, l1] : List (List Int))) (inner := [.slice A0 l0.length c0, .slice A1 l1.length c1]) (ok := (fun k_ => ((P0_ k_ ∨ P1_ k_) ∨ w.heap.size ≤ k_))) (okp := (fun k_ => ((P0_ k_ ∨ P1_ k_) ∨ w.heap.size ≤ k_))) ?hr ?hp (fun _ hk => hk) ((show ∀ k_, w.heap.size ≤ k_ → (fun k_ => ((P0_ k_ ∨ P1_ k_) ∨ w.heap.size ≤ k_)) k_ from fun k_ hk => (.inr (Nat.le_trans (below_size tB) hk))) _ (Nat.le_refl _)) (Below.refl _ _) (Nat.le_refl _) (by simp) ?_; (case hd => rfl); (case hg => rfl); (case hr => first | (go_simp; done) | (go_simp; rfl)); (case hp => exact (Reps.one (show Kd.FK (Kd.slice 3 (Kd.int .i64)) _ _ l0 [.slice A0 l0.length c0] from (Kd.FK_slice_mk (Kd.V_reads' (Kd.V_mono (ok' := (fun k_ => ((P0_ k_ ∨ P1_ k_) ∨ w.heap.size ≤ k_))) (HO0.out) (fun k_ hk => hk))).2.1 (Kd.V_F (Kd.V_mono (ok' := (fun k_ => ((P0_ k_ ∨ P1_ k_) ∨ w.heap.size ≤ k_))) (HO0.out) (fun k_ hk => hk))))) (Reps.one (show Kd.FK (Kd.slice 3 (Kd.int .i64)) _ _ l1 [.slice A1 l1.length c1] from (Kd.FK_slice_mk (Kd.V_reads' (Kd.V_mono (ok' := (fun k_ => ((P0_ k_ ∨ P1_ k_) ∨ w.heap.size ≤ k_))) (HO1.out) (fun k_ hk => hk))).2.1 (Kd.V_F (Kd.V_mono (ok' := (fun k_ => ((P0_ k_ ∨ P1_ k_) ∨ w.heap.size ≤ k_))) (HO1.out) (fun k_ hk => hk))))) (Reps.none _ _)))); intro v102 w10 ho11 hb hg_ hnew_; clear hg_ hnew_; (first | rw [← Ny101.out] at ho11 | (simp only [Int.reduceToNat] at ho11; rw [← Ny101.out] at ho11)); replace HO0 := Aside0.mk (Kd.V_elder' (tV HO0.out) (Kd.N_base ho11) hb); replace HO1 := Aside0.mk (Kd.V_elder' (tV HO1.out) (Kd.N_base ho11) hb); have HO103 := Aside0.mk (Kd.N_lower ho11 (below_size tB)); replace HB := Aside0.mk (below_step tB hb); clear hb ho11; obtain ⟨Ao12, co12, eo12⟩ := Kd.N_slice HO103.out; subst eo12) | ((with_reducible refine gate_callee (f := 113) rfl ?_); refine goesL_ (some 9) rfl rfl Tryd.func113 (by kernel_rfl) rfl #[.slice Ao12 y101.length co12] rfl tL ?_; (with_reducible refine (feature_vectors.calls k _ _ y101 t104 _ ?side1 ?side2 A3.out).mono ?_); (case side1 => exact tC (Kd.N_reads' HO103.out).2.2); (case side2 => exact (Kd.N_reads' HO103.out).2.1); rintro e w13 ⟨rfl, hb⟩; refine ⟨_, rfl, ?_⟩; replace HO0 := Aside0.mk (Kd.V_below (tV HO0.out) hb); replace HO1 := Aside0.mk (Kd.V_below (tV HO1.out) hb); replace HO103 := Aside0.mk (Kd.N_below (tN HO103.out) hb); replace HB := Aside0.mk (below_step tB hb); (try clear hb); (try clear hb2); (try clear hk); (try clear hi)))
  go_ret2
  exact ⟨by first | rfl | (simp [errW_none, errW_some] <;> rfl) | (simp [*, errW_none, errW_some] <;> rfl), tB⟩

/-! ### earshotref03_Distance: function 70 -/
def earshotref03_Distance.l0 : Nat → List Int → List Int → Int → Int → Option (Int)
 | 0, _, _, _, _ => none
 | k + 1, x0, x1, x5, x6 => if x6 < (x0.length : Int) then (if 0 ≤ x6 then (if x6 < (x1.length : Int) then (earshotref03_Distance.l0 k x0 x1 (wrap64 (x5 + (wrap64 ((wrap64 ((rd x0 x6) - (rd x1 x6))) * (wrap64 ((rd x0 x6) - (rd x1 x6))))))) (wrap64 (x6 + 1))) else (none)) else (none)) else (some x5)
def earshotref03_Distance.f (k : Nat) (l0 : List Int) (l1 : List Int) : Option (Int) := earshotref03_Distance.l0 k l0 l1 0 0
theorem earshotref03_Distance.mono_l : ∀ k, (∀ y0 y1 y2 y3, LeO (earshotref03_Distance.l0 k y0 y1 y2 y3) (earshotref03_Distance.l0 (k + 1) y0 y1 y2 y3))
 | 0 => fun _ _ _ _ r h => by simp [earshotref03_Distance.l0] at h
 | k + 1 => by
  have ih0 := earshotref03_Distance.mono_l k
  ·intro y0 y1 y2 y3
   unfold earshotref03_Distance.l0
   repeat' first
   | (with_reducible exact ih0 _ _ _ _)
   | (with_reducible exact LeO.refl _)
   | (with_reducible exact LeO.none _)
   | (with_reducible refine LeO.ite ?_ ?_)
   | (with_reducible refine LeO.bind ?_ (fun _ => ?_))
   | exact ih0 _ _ _ _
   | exact LeO.none _
   | refine LeO.ite ?_ ?_
   | refine LeO.bind ?_ (fun _ => ?_)
theorem earshotref03_Distance.mono : ∀ a0 a1 k, LeO (earshotref03_Distance.f k a0 a1) (earshotref03_Distance.f (k + 1) a0 a1) := by
 intro a0 a1 k
 have ih0 := earshotref03_Distance.mono_l k
 unfold earshotref03_Distance.f
 repeat' first
   | (with_reducible exact ih0 _ _ _ _)
   | (with_reducible exact LeO.refl _)
   | (with_reducible exact LeO.none _)
   | (with_reducible refine LeO.ite ?_ ?_)
   | (with_reducible refine LeO.bind ?_ (fun _ => ?_))
   | exact ih0 _ _ _ _
   | exact LeO.none _
   | refine LeO.ite ?_ ?_
   | refine LeO.bind ?_ (fun _ => ?_)
set_option maxHeartbeats 8000000 in
set_option maxRecDepth 100000 in
theorem earshotref03_Distance.calls (k : Nat) (A0 : Option Addr) (c0 : Nat) (l0 : List Int) (A1 : Option Addr) (c1 : Nat) (l1 : List Int) (r : Int) (w : World) (hr0 : Kd.C (Kd.int .i64) w A0 l0.length l0) (hc0 : l0.length ≤ c0) (hr1 : Kd.C (Kd.int .i64) w A1 l1.length l1) (hc1 : l1.length ≤ c1) (h : earshotref03_Distance.f k l0 l1 = some r) :
  Calls Tryd.prog 70 #[.slice A0 l0.length c0, .slice A1 l1.length c1] w fun e w' => e = .returned (.int .i64 r) ∧ Drawn0 w w' := by
 have HR0 := Aside0.mk hr0
 have HC0 := Aside0.mk hc0
 clear hr0 hc0
 have HR1 := Aside0.mk hr1
 have HC1 := Aside0.mk hc1
 clear hr1 hc1
 have H : (earshotref03_Distance.l0 k l0 l1 0 0) = some r := h
 clear h
 have H' := Aside0.mk H
 clear H
 go_enter Tryd.func70, Tryd.ntmps70
 go_wp2
 repeat (go_quiet (fail); try go_wp2)
 go_loopg [5, 6] k (fun kq v5 v6 w' => ∃ (x5_1 : Int) (x6_1 : Int), v5 = .int .i64 x5_1 ∧ v6 = .int .i64 x6_1 ∧ Aside0 (earshotref03_Distance.l0 kq l0 l1 x5_1 x6_1 = some r) ∧ Aside0 (kq ≤ k) ∧ Drawn0 w w')
 case atStart => exact ⟨(0), (0), (by first | rfl | (simp; done) | (simp only [i64_w]; done) | (simp [*]; done)), (by first | rfl | (simp; done) | (simp only [i64_w]; done) | (simp [*]; done)), H', ⟨Nat.le_refl _⟩, by repeat (first | exact Drawn0.refl _ | apply Drawn0.step)⟩
 case round =>
  clear H'
  try clear c1
  try clear p2
  obtain ⟨x5_1, x6_1, rfl, rfl, HA, HK1, ⟨m1, rfl⟩⟩ := hrel
  cases gk with
  | zero => exact absurd HA.out (by simp [earshotref03_Distance.l0])
  | succ k1 =>
   have H := HA.out
   clear HA
   simp only [earshotref03_Distance.l0] at H
   by_cases c3 : x6_1 < (l0.length : Int)
   ·rw [if_pos c3] at H
    have c3b0 := decide_eq_true c3
    clear c3
    by_cases c4 : 0 ≤ x6_1
    ·rw [if_pos c4] at H
     have c4b0 := decide_eq_true c4
     clear c4
     by_cases c5 : x6_1 < (l1.length : Int)
     ·rw [if_pos c5] at H
      have c5b0 := decide_eq_true c5
      clear c5
      have H' := Aside0.mk H
      clear H
      have p101 : 0 ≤ (x6_1 : Int) := of_decide_eq_true tA
      have q101 : x6_1 < (l0.length : Int) := of_decide_eq_true tA
      obtain ⟨ad101, e101, hx101_0⟩ := Kd.at_int HR0.out x6_1 p101 q101
      cases e101
      replace p101 := eq_true p101
      replace q101 := eq_true q101
      have p102 : 0 ≤ (x6_1 : Int) := of_decide_eq_true tA
      have q102 : x6_1 < (l1.length : Int) := of_decide_eq_true tA
      obtain ⟨ad102, e102, hx102_0⟩ := Kd.at_int HR1.out x6_1 p102 q102
      cases e102
      replace p102 := eq_true p102
      replace q102 := eq_true q102
      have p103 : 0 ≤ (x6_1 : Int) := of_decide_eq_true tA
      have q103 : x6_1 < (l0.length : Int) := of_decide_eq_true tA
      obtain ⟨ad103, e103, hx103_0⟩ := Kd.at_int HR0.out x6_1 p103 q103
      obtain rfl : ad101 = ad103 := (by injection e103)
      replace p103 := eq_true p103
      replace q103 := eq_true q103
      have p104 : 0 ≤ (x6_1 : Int) := of_decide_eq_true tA
      have q104 : x6_1 < (l1.length : Int) := of_decide_eq_true tA
      obtain ⟨ad104, e104, hx104_0⟩ := Kd.at_int HR1.out x6_1 p104 q104
      obtain rfl : ad102 = ad104 := (by injection e104)
      replace p104 := eq_true p104
      replace q104 := eq_true q104
      go_wp2
      repeat (go_quiet (fail); try go_wp2)
      go_roundg k1
      case measure => have := HK1.out; omega
      case rel => exact ⟨(wrap64 (x5_1 + (wrap64 ((wrap64 ((rd l0 x6_1) - (rd l1 x6_1))) * (wrap64 ((rd l0 x6_1) - (rd l1 x6_1))))))), (wrap64 (x6_1 + 1)), (by first | rfl | (simp; done) | (simp only [i64_w]; done) | (simp [*]; done)), (by first | rfl | (simp; done) | (simp only [i64_w]; done) | (simp [*]; done)), H', ⟨by have := HK1.out; omega⟩, by repeat (first | exact Drawn0.refl _ | apply Drawn0.step)⟩
     ·rw [if_neg c5] at H
      exact absurd H (by simp)
    ·rw [if_neg c4] at H
     exact absurd H (by simp)
   ·rw [if_neg c3] at H
    have c3b0 := decide_eq_false c3
    clear c3
    obtain rfl := Option.some.inj H
    go_wp2
    repeat (go_quiet (fail); try go_wp2)
    go_ret
    exact ⟨by first | rfl | (simp; done) | (simp [*]; done), by repeat (first | exact Drawn0.refl _ | apply Drawn0.step)⟩

/-! ### feature_Nearest: function 71 -/
def feature_Nearest.f (k : Nat) (l0 : List Int) (l1 : List (List Int)) : Option (Int × Int × Int) := (feature_fits.f k (([l0] : List (List Int))) l1).bind fun t104 => (if t104 = 0 then ((feature_nearest.f k l0 l1).bind fun bt105 => (some (bt105.1, bt105.2, 0))) else (some (0, 0, t104)))
theorem feature_Nearest.mono : ∀ a0 a1 k, LeO (feature_Nearest.f k a0 a1) (feature_Nearest.f (k + 1) a0 a1) := by
 intro a0 a1 k
 unfold feature_Nearest.f
 repeat' first
   | (with_reducible exact feature_fits.mono _ _ _)
   | (with_reducible exact feature_nearest.mono _ _ _)
   | (with_reducible exact LeO.refl _)
   | (with_reducible exact LeO.none _)
   | (with_reducible refine LeO.ite ?_ ?_)
   | (with_reducible refine LeO.bind ?_ (fun _ => ?_))
   | exact feature_fits.mono _ _ _
   | exact feature_nearest.mono _ _ _
   | exact LeO.none _
   | refine LeO.ite ?_ ?_
   | refine LeO.bind ?_ (fun _ => ?_)
set_option maxHeartbeats 8000000 in
set_option maxRecDepth 100000 in
theorem feature_Nearest.calls (k : Nat) (P0_ : Nat → Prop) (A0 : Option Addr) (c0 : Nat) (l0 : List Int) (A1 : Option Addr) (c1 : Nat) (l1 : List (List Int)) (r1 : Int) (r2 : Int) (r3 : Int) (w : World) (hs0 : Kd.V (Kd.int .i64) 3 w w.heap.size (fun k_ => P0_ k_) (.slice A0 l0.length c0) l0) (hr1 : Kd.C (Kd.slice 3 (Kd.int .i64)) w A1 l1.length l1) (hc1 : l1.length ≤ c1) (h : feature_Nearest.f k l0 l1 = some (r1, r2, r3)) :
  Calls Tryd.prog 71 #[.slice A0 l0.length c0, .slice A1 l1.length c1] w fun e w' => e = .returned (.tuple #[.int .i64 r1, .int .i64 r2, .int .i64 r3]) ∧ Below w.heap.size w w' := by
 have HO0 := Aside0.mk (show Kd.V (Kd.int .i64) 3 w w.heap.size (fun k_ => (P0_ k_ ∨ w.heap.size ≤ k_)) (.slice A0 l0.length c0) l0 from Kd.V_mono hs0 (fun k_ hk => .inl hk))
 have HR1 := Aside0.mk hr1
 have HC1 := Aside0.mk hc1
 clear hr1 hc1
 have HB := Aside0.mk (Below.refl w.heap.size w)
 have H : ((feature_fits.f k (([l0] : List (List Int))) l1).bind fun t104 => (if t104 = 0 then ((feature_nearest.f k l0 l1).bind fun bt105 => (some (bt105.1, bt105.2, 0))) else (some (0, 0, t104)))) = some (r1, r2, r3) := h
 clear h
 obtain ⟨y101, hy101⟩ : ∃ y_ : List (List Int), y_ = (([l0] : List (List Int))) := ⟨_, rfl⟩
 replace H : ((feature_fits.f k y101 l1).bind fun t104 => (if t104 = 0 then ((feature_nearest.f k l0 l1).bind fun bt105 => (some (bt105.1, bt105.2, 0))) else (some (0, 0, t104)))) = some (r1, r2, r3) := by first | (rw [hy101]; with_reducible exact H) | (have H2_ := (Option.bind_some _ _).symm.trans H; rw [hy101]; with_reducible exact H2_) | (have H2_ := (Option.bind_some _ _).symm.trans H; with_reducible exact H2_) | with_reducible exact H | (rw [hy101]; exact H) | exact H
 have Ny101 := Aside0.mk hy101
 clear hy101
 replace H := Option.bind_eq_some_iff.mp H
 obtain ⟨t104, A30, H⟩ := H
 try dsimp only at H
 have A3 := Aside0.mk A30
 clear A30
 by_cases c4 : t104 = 0
 ·rw [if_pos c4] at H
  have c4b0 : (t104 == 0) = true := beq_iff_eq.mpr c4
  have c4b1 : (t104 != 0) = false := bne_eq_false_iff_eq.mpr c4
  clear c4
  replace H := Option.bind_eq_some_iff.mp H
  obtain ⟨⟨t105, t106⟩, A50, H⟩ := H
  try dsimp only at H
  have A5 := Aside0.mk A50
  clear A50
  simp only [Option.some.injEq, Prod.mk.injEq] at H
  obtain ⟨rfl, rfl, rfl⟩ := H
  go_enter Tryd.func71, Tryd.ntmps71
  go_wp2_with (first | ((with_reducible refine gate_dst (N := 11) rfl ?_); refine Kd.N_lit (Kd.slice 3 (Kd.int .i64)) _ 22 ?hg (N' := 11) ?hd (xs := ([l0] : List (List Int))) (inner := [.slice A0 l0.length c0]) (ok := (fun k_ => (P0_ k_ ∨ w.heap.size ≤ k_))) (okp := (fun k_ => (P0_ k_ ∨ w.heap.size ≤ k_))) ?hr ?hp (fun _ hk => hk) ((show ∀ k_, w.heap.size ≤ k_ → (fun k_ => (P0_ k_ ∨ w.heap.size ≤ k_)) k_ from fun k_ hk => (.inr (Nat.le_trans (below_size tB) hk))) _ (Nat.le_refl _)) (Below.refl _ _) (Nat.le_refl _) (by simp) ?_; (case hd => rfl); (case hg => rfl); (case hr => first | (go_simp; done) | (go_simp; rfl)); (case hp => exact (Reps.one (show Kd.FK (Kd.slice 3 (Kd.int .i64)) _ _ l0 [.slice A0 l0.length c0] from (Kd.FK_slice_mk (Kd.V_reads' (Kd.V_mono (ok' := (fun k_ => (P0_ k_ ∨ w.heap.size ≤ k_))) (HO0.out) (fun k_ hk => hk))).2.1 (Kd.V_F (Kd.V_mono (ok' := (fun k_ => (P0_ k_ ∨ w.heap.size ≤ k_))) (HO0.out) (fun k_ hk => hk))))) (Reps.none _ _))); intro v102 w6 ho7 hb hg_ hnew_; clear hg_ hnew_; (first | rw [← Ny101.out] at ho7 | (simp only [Int.reduceToNat] at ho7; rw [← Ny101.out] at ho7)); replace HO0 := Aside0.mk (Kd.V_elder' (tV HO0.out) (Kd.N_base ho7) hb); have HO103 := Aside0.mk (Kd.N_lower ho7 (below_size tB)); replace HB := Aside0.mk (below_step tB hb); clear hb ho7; obtain ⟨Ao8, co8, eo8⟩ := Kd.N_slice HO103.out; subst eo8) | ((with_reducible refine gate_callee (f := 100) rfl ?_); refine goesL_ (some 13) rfl rfl Tryd.func100 (by kernel_rfl) rfl #[.slice Ao8 y101.length co8, .slice A1 l1.length c1] rfl tL ?_; (with_reducible refine (feature_fits.calls k _ _ y101 _ _ l1 t104 _ ?side1 ?side2 ?side3 ?side4 A3.out).mono ?_); (case side1 => exact tC (Kd.N_reads' HO103.out).2.2); (case side2 => exact (Kd.N_reads' HO103.out).2.1); (case side3 => exact tC (Kd.C_below HR1.out HB.out)); (case side4 => exact HC1.out); rintro e w9 ⟨rfl, hb⟩; refine ⟨_, rfl, ?_⟩; replace HO0 := Aside0.mk (Kd.V_below (tV HO0.out) hb); replace HO103 := Aside0.mk (Kd.N_below (tN HO103.out) hb); replace HB := Aside0.mk (below_step tB hb); (try clear hb); (try clear hb2); (try clear hk); (try clear hi)) | ((with_reducible refine gate_callee (f := 101) rfl ?_); refine goesL_ (some 20) rfl rfl Tryd.func101 (by kernel_rfl) rfl #[.slice A0 l0.length c0, .slice A1 l1.length c1] rfl tL ?_; (with_reducible refine (feature_nearest.calls k _ _ l0 _ _ l1 t105 t106 _ ?side1 ?side2 ?side3 ?side4 A5.out).mono ?_); (case side1 => exact tC (Kd.V_reads' HO0.out).2.2); (case side2 => exact (Kd.V_reads' HO0.out).2.1); (case side3 => exact tC (Kd.C_below HR1.out HB.out)); (case side4 => exact HC1.out); rintro e w' ⟨rfl, ⟨nd, rfl⟩⟩; refine ⟨_, rfl, ?_⟩))
  go_ret3
  exact ⟨by first | rfl | (simp [errW_none, errW_some] <;> rfl) | (simp [*, errW_none, errW_some] <;> rfl), tB⟩
 ·rw [if_neg c4] at H
  have c4b0 : (t104 == 0) = false := beq_eq_false_iff_ne.mpr c4
  have c4b1 : (t104 != 0) = true := bne_iff_ne.mpr c4
  simp only [Option.some.injEq, Prod.mk.injEq] at H
  obtain ⟨rfl, rfl, rfl⟩ := H
  go_enter Tryd.func71, Tryd.ntmps71
  go_wp2_with (first | ((with_reducible refine gate_dst (N := 11) rfl ?_); refine Kd.N_lit (Kd.slice 3 (Kd.int .i64)) _ 22 ?hg (N' := 11) ?hd (xs := ([l0] : List (List Int))) (inner := [.slice A0 l0.length c0]) (ok := (fun k_ => (P0_ k_ ∨ w.heap.size ≤ k_))) (okp := (fun k_ => (P0_ k_ ∨ w.heap.size ≤ k_))) ?hr ?hp (fun _ hk => hk) ((show ∀ k_, w.heap.size ≤ k_ → (fun k_ => (P0_ k_ ∨ w.heap.size ≤ k_)) k_ from fun k_ hk => (.inr (Nat.le_trans (below_size tB) hk))) _ (Nat.le_refl _)) (Below.refl _ _) (Nat.le_refl _) (by simp) ?_; (case hd => rfl); (case hg => rfl); (case hr => first | (go_simp; done) | (go_simp; rfl)); (case hp => exact (Reps.one (show Kd.FK (Kd.slice 3 (Kd.int .i64)) _ _ l0 [.slice A0 l0.length c0] from (Kd.FK_slice_mk (Kd.V_reads' (Kd.V_mono (ok' := (fun k_ => (P0_ k_ ∨ w.heap.size ≤ k_))) (HO0.out) (fun k_ hk => hk))).2.1 (Kd.V_F (Kd.V_mono (ok' := (fun k_ => (P0_ k_ ∨ w.heap.size ≤ k_))) (HO0.out) (fun k_ hk => hk))))) (Reps.none _ _))); intro v102 w10 ho11 hb hg_ hnew_; clear hg_ hnew_; (first | rw [← Ny101.out] at ho11 | (simp only [Int.reduceToNat] at ho11; rw [← Ny101.out] at ho11)); replace HO0 := Aside0.mk (Kd.V_elder' (tV HO0.out) (Kd.N_base ho11) hb); have HO103 := Aside0.mk (Kd.N_lower ho11 (below_size tB)); replace HB := Aside0.mk (below_step tB hb); clear hb ho11; obtain ⟨Ao12, co12, eo12⟩ := Kd.N_slice HO103.out; subst eo12) | ((with_reducible refine gate_callee (f := 100) rfl ?_); refine goesL_ (some 13) rfl rfl Tryd.func100 (by kernel_rfl) rfl #[.slice Ao12 y101.length co12, .slice A1 l1.length c1] rfl tL ?_; (with_reducible refine (feature_fits.calls k _ _ y101 _ _ l1 t104 _ ?side1 ?side2 ?side3 ?side4 A3.out).mono ?_); (case side1 => exact tC (Kd.N_reads' HO103.out).2.2); (case side2 => exact (Kd.N_reads' HO103.out).2.1); (case side3 => exact tC (Kd.C_below HR1.out HB.out)); (case side4 => exact HC1.out); rintro e w13 ⟨rfl, hb⟩; refine ⟨_, rfl, ?_⟩; replace HO0 := Aside0.mk (Kd.V_below (tV HO0.out) hb); replace HO103 := Aside0.mk (Kd.N_below (tN HO103.out) hb); replace HB := Aside0.mk (below_step tB hb); (try clear hb); (try clear hb2); (try clear hk); (try clear hi)))
  go_ret3
  exact ⟨by first | rfl | (simp [errW_none, errW_some] <;> rfl) | (simp [*, errW_none, errW_some] <;> rfl), tB⟩

/-! ### earshotref03_Nearest: function 72 -/
def earshotref03_Nearest.l0 : Nat → List Int → List (List Int) → Int → Int → Option (Int)
 | 0, _, _, _, _ => none
 | k + 1, x0, x1, x5, x6 => if x6 < (x1.length : Int) then (if 0 ≤ x6 then ((earshotref03_Distance.f k x0 (rd_L2 x1 x6)).bind fun t102 => (if 0 ≤ x5 then (if x5 < (x1.length : Int) then ((earshotref03_Distance.f k x0 (rd_L2 x1 x5)).bind fun t104 => (if t102 < t104 then (earshotref03_Nearest.l0 k x0 x1 x6 (wrap64 (x6 + 1))) else (earshotref03_Nearest.l0 k x0 x1 x5 (wrap64 (x6 + 1))))) else (none)) else (none))) else (none)) else (some x5)
def earshotref03_Nearest.f (k : Nat) (l0 : List Int) (l1 : List (List Int)) : Option (Int) := earshotref03_Nearest.l0 k l0 l1 0 1
theorem earshotref03_Nearest.mono_l : ∀ k, (∀ y0 y1 y2 y3, LeO (earshotref03_Nearest.l0 k y0 y1 y2 y3) (earshotref03_Nearest.l0 (k + 1) y0 y1 y2 y3))
 | 0 => fun _ _ _ _ r h => by simp [earshotref03_Nearest.l0] at h
 | k + 1 => by
  have ih0 := earshotref03_Nearest.mono_l k
  ·intro y0 y1 y2 y3
   unfold earshotref03_Nearest.l0
   repeat' first
   | (with_reducible exact ih0 _ _ _ _)
   | (with_reducible exact earshotref03_Distance.mono _ _ _)
   | (with_reducible exact LeO.refl _)
   | (with_reducible exact LeO.none _)
   | (with_reducible refine LeO.ite ?_ ?_)
   | (with_reducible refine LeO.bind ?_ (fun _ => ?_))
   | exact ih0 _ _ _ _
   | exact earshotref03_Distance.mono _ _ _
   | exact LeO.none _
   | refine LeO.ite ?_ ?_
   | refine LeO.bind ?_ (fun _ => ?_)
theorem earshotref03_Nearest.mono : ∀ a0 a1 k, LeO (earshotref03_Nearest.f k a0 a1) (earshotref03_Nearest.f (k + 1) a0 a1) := by
 intro a0 a1 k
 have ih0 := earshotref03_Nearest.mono_l k
 unfold earshotref03_Nearest.f
 repeat' first
   | (with_reducible exact ih0 _ _ _ _)
   | (with_reducible exact earshotref03_Distance.mono _ _ _)
   | (with_reducible exact LeO.refl _)
   | (with_reducible exact LeO.none _)
   | (with_reducible refine LeO.ite ?_ ?_)
   | (with_reducible refine LeO.bind ?_ (fun _ => ?_))
   | exact ih0 _ _ _ _
   | exact earshotref03_Distance.mono _ _ _
   | exact LeO.none _
   | refine LeO.ite ?_ ?_
   | refine LeO.bind ?_ (fun _ => ?_)
set_option maxHeartbeats 8000000 in
set_option maxRecDepth 100000 in
theorem earshotref03_Nearest.calls (k : Nat) (A0 : Option Addr) (c0 : Nat) (l0 : List Int) (A1 : Option Addr) (c1 : Nat) (l1 : List (List Int)) (r : Int) (w : World) (hr0 : Kd.C (Kd.int .i64) w A0 l0.length l0) (hc0 : l0.length ≤ c0) (hr1 : Kd.C (Kd.slice 3 (Kd.int .i64)) w A1 l1.length l1) (hc1 : l1.length ≤ c1) (h : earshotref03_Nearest.f k l0 l1 = some r) :
  Calls Tryd.prog 72 #[.slice A0 l0.length c0, .slice A1 l1.length c1] w fun e w' => e = .returned (.int .i64 r) ∧ Drawn0 w w' := by
 have HR0 := Aside0.mk hr0
 have HC0 := Aside0.mk hc0
 clear hr0 hc0
 have HR1 := Aside0.mk hr1
 have HC1 := Aside0.mk hc1
 clear hr1 hc1
 have H : (earshotref03_Nearest.l0 k l0 l1 0 1) = some r := h
 clear h
 have H' := Aside0.mk H
 clear H
 go_enter Tryd.func72, Tryd.ntmps72
 go_wp2
 repeat (go_quiet (fail); try go_wp2)
 go_loopg [5, 6] k (fun kq v5 v6 w' => ∃ (x5_1 : Int) (x6_1 : Int), v5 = .int .i64 x5_1 ∧ v6 = .int .i64 x6_1 ∧ Aside0 (earshotref03_Nearest.l0 kq l0 l1 x5_1 x6_1 = some r) ∧ Aside0 (kq ≤ k) ∧ Drawn0 w w')
 case atStart => exact ⟨(0), (1), (by first | rfl | (simp; done) | (simp only [i64_w]; done) | (simp [*]; done)), (by first | rfl | (simp; done) | (simp only [i64_w]; done) | (simp [*]; done)), H', ⟨Nat.le_refl _⟩, by repeat (first | exact Drawn0.refl _ | apply Drawn0.step)⟩
 case round =>
  clear H'
  try clear c1
  try clear p2
  obtain ⟨x5_1, x6_1, rfl, rfl, HA, HK1, ⟨m1, rfl⟩⟩ := hrel
  cases gk with
  | zero => exact absurd HA.out (by simp [earshotref03_Nearest.l0])
  | succ k1 =>
   have H := HA.out
   clear HA
   simp only [earshotref03_Nearest.l0] at H
   by_cases c3 : x6_1 < (l1.length : Int)
   ·rw [if_pos c3] at H
    have c3b0 := decide_eq_true c3
    clear c3
    by_cases c4 : 0 ≤ x6_1
    ·rw [if_pos c4] at H
     have c4b0 := decide_eq_true c4
     clear c4
     replace H := Option.bind_eq_some_iff.mp H
     obtain ⟨t102, A50, H⟩ := H
     try dsimp only at H
     have A5 := Aside0.mk A50
     clear A50
     by_cases c6 : 0 ≤ x5_1
     ·rw [if_pos c6] at H
      have c6b0 := decide_eq_true c6
      clear c6
      by_cases c7 : x5_1 < (l1.length : Int)
      ·rw [if_pos c7] at H
       have c7b0 := decide_eq_true c7
       clear c7
       replace H := Option.bind_eq_some_iff.mp H
       obtain ⟨t104, A80, H⟩ := H
       try dsimp only at H
       have A8 := Aside0.mk A80
       clear A80
       by_cases c9 : t102 < t104
       ·rw [if_pos c9] at H
        have c9b0 := decide_eq_true c9
        clear c9
        have H' := Aside0.mk H
        clear H
        have p101 : 0 ≤ (x6_1 : Int) := of_decide_eq_true tA
        have q101 : x6_1 < (l1.length : Int) := of_decide_eq_true tA
        obtain ⟨ad101, A101_0, c101_0, e101, hx101_0, hl101_0, hi101_0⟩ := at_L2 HR1.out x6_1 p101 q101
        cases e101
        have HR101_0 := Aside0.mk hi101_0
        have HC101_0 := Aside0.mk hl101_0
        clear hi101_0 hl101_0
        replace p101 := eq_true p101
        replace q101 := eq_true q101
        go_wp2_with (first | (go_at_call 70; (with_reducible refine (earshotref03_Distance.calls k1 _ _ l0 _ _ (rd_L2 l1 x6_1) t102 _ ?side1 ?side2 ?side3 ?side4 A5.out).mono ?_); (case side1 => exact tC HR0.out); (case side2 => exact HC0.out); (case side3 => exact tC HR101_0.out); (case side4 => exact HC101_0.out); rintro e w' ⟨rfl, ⟨nd, rfl⟩⟩; (try first | exact ⟨rfl, _, World.drewN_drewN _ _ _⟩ | exact ⟨rfl, _, Eq.trans (World.drewN_drewN _ _ _) (congrArg (World.drewN _) (Nat.add_assoc _ _ _))⟩); have p103 : 0 ≤ (x5_1 : Int) := of_decide_eq_true tA; have q103 : x5_1 < (l1.length : Int) := of_decide_eq_true tA; obtain ⟨ad103, A103_0, c103_0, e103, hx103_0, hl103_0, hi103_0⟩ := at_L2 HR1.out x5_1 p103 q103; obtain rfl : ad101 = ad103 := (by injection e103); have HR103_0 := Aside0.mk hi103_0; have HC103_0 := Aside0.mk hl103_0; clear hi103_0 hl103_0; replace p103 := eq_true p103; replace q103 := eq_true q103) | (go_at_call 70; (with_reducible refine (earshotref03_Distance.calls k1 _ _ l0 _ _ (rd_L2 l1 x5_1) t104 _ ?side1 ?side2 ?side3 ?side4 A8.out).mono ?_); (case side1 => exact tC HR0.out); (case side2 => exact HC0.out); (case side3 => exact tC HR103_0.out); (case side4 => exact HC103_0.out); rintro e w' ⟨rfl, ⟨nd, rfl⟩⟩; (try first | exact ⟨rfl, _, World.drewN_drewN _ _ _⟩ | exact ⟨rfl, _, Eq.trans (World.drewN_drewN _ _ _) (congrArg (World.drewN _) (Nat.add_assoc _ _ _))⟩)))
        repeat (go_quiet (first | (go_at_call 70; (with_reducible refine (earshotref03_Distance.calls k1 _ _ l0 _ _ (rd_L2 l1 x6_1) t102 _ ?side1 ?side2 ?side3 ?side4 A5.out).mono ?_); (case side1 => exact tC HR0.out); (case side2 => exact HC0.out); (case side3 => exact tC HR101_0.out); (case side4 => exact HC101_0.out); rintro e w' ⟨rfl, ⟨nd, rfl⟩⟩; (try first | exact ⟨rfl, _, World.drewN_drewN _ _ _⟩ | exact ⟨rfl, _, Eq.trans (World.drewN_drewN _ _ _) (congrArg (World.drewN _) (Nat.add_assoc _ _ _))⟩); have p103 : 0 ≤ (x5_1 : Int) := of_decide_eq_true tA; have q103 : x5_1 < (l1.length : Int) := of_decide_eq_true tA; obtain ⟨ad103, A103_0, c103_0, e103, hx103_0, hl103_0, hi103_0⟩ := at_L2 HR1.out x5_1 p103 q103; obtain rfl : ad101 = ad103 := (by injection e103); have HR103_0 := Aside0.mk hi103_0; have HC103_0 := Aside0.mk hl103_0; clear hi103_0 hl103_0; replace p103 := eq_true p103; replace q103 := eq_true q103) | (go_at_call 70; (with_reducible refine (earshotref03_Distance.calls k1 _ _ l0 _ _ (rd_L2 l1 x5_1) t104 _ ?side1 ?side2 ?side3 ?side4 A8.out).mono ?_); (case side1 => exact tC HR0.out); (case side2 => exact HC0.out); (case side3 => exact tC HR103_0.out); (case side4 => exact HC103_0.out); rintro e w' ⟨rfl, ⟨nd, rfl⟩⟩; (try first | exact ⟨rfl, _, World.drewN_drewN _ _ _⟩ | exact ⟨rfl, _, Eq.trans (World.drewN_drewN _ _ _) (congrArg (World.drewN _) (Nat.add_assoc _ _ _))⟩))); try go_wp2_with (first | (go_at_call 70; (with_reducible refine (earshotref03_Distance.calls k1 _ _ l0 _ _ (rd_L2 l1 x6_1) t102 _ ?side1 ?side2 ?side3 ?side4 A5.out).mono ?_); (case side1 => exact tC HR0.out); (case side2 => exact HC0.out); (case side3 => exact tC HR101_0.out); (case side4 => exact HC101_0.out); rintro e w' ⟨rfl, ⟨nd, rfl⟩⟩; (try first | exact ⟨rfl, _, World.drewN_drewN _ _ _⟩ | exact ⟨rfl, _, Eq.trans (World.drewN_drewN _ _ _) (congrArg (World.drewN _) (Nat.add_assoc _ _ _))⟩); have p103 : 0 ≤ (x5_1 : Int) := of_decide_eq_true tA; have q103 : x5_1 < (l1.length : Int) := of_decide_eq_true tA; obtain ⟨ad103, A103_0, c103_0, e103, hx103_0, hl103_0, hi103_0⟩ := at_L2 HR1.out x5_1 p103 q103; obtain rfl : ad101 = ad103 := (by injection e103); have HR103_0 := Aside0.mk hi103_0; have HC103_0 := Aside0.mk hl103_0; clear hi103_0 hl103_0; replace p103 := eq_true p103; replace q103 := eq_true q103) | (go_at_call 70; (with_reducible refine (earshotref03_Distance.calls k1 _ _ l0 _ _ (rd_L2 l1 x5_1) t104 _ ?side1 ?side2 ?side3 ?side4 A8.out).mono ?_); (case side1 => exact tC HR0.out); (case side2 => exact HC0.out); (case side3 => exact tC HR103_0.out); (case side4 => exact HC103_0.out); rintro e w' ⟨rfl, ⟨nd, rfl⟩⟩; (try first | exact ⟨rfl, _, World.drewN_drewN _ _ _⟩ | exact ⟨rfl, _, Eq.trans (World.drewN_drewN _ _ _) (congrArg (World.drewN _) (Nat.add_assoc _ _ _))⟩))))
        go_roundg k1
        case measure => have := HK1.out; omega
        case rel => exact ⟨(x6_1), (wrap64 (x6_1 + 1)), (by first | rfl | (simp; done) | (simp only [i64_w]; done) | (simp [*]; done)), (by first | rfl | (simp; done) | (simp only [i64_w]; done) | (simp [*]; done)), H', ⟨by have := HK1.out; omega⟩, by repeat (first | exact Drawn0.refl _ | apply Drawn0.step)⟩
       ·rw [if_neg c9] at H
        have c9b0 := decide_eq_false c9
        clear c9
        have H' := Aside0.mk H
        clear H
        have p101 : 0 ≤ (x6_1 : Int) := of_decide_eq_true tA
        have q101 : x6_1 < (l1.length : Int) := of_decide_eq_true tA
        obtain ⟨ad101, A101_0, c101_0, e101, hx101_0, hl101_0, hi101_0⟩ := at_L2 HR1.out x6_1 p101 q101
        cases e101
        have HR101_0 := Aside0.mk hi101_0
        have HC101_0 := Aside0.mk hl101_0
        clear hi101_0 hl101_0
        replace p101 := eq_true p101
        replace q101 := eq_true q101
        go_wp2_with (first | (go_at_call 70; (with_reducible refine (earshotref03_Distance.calls k1 _ _ l0 _ _ (rd_L2 l1 x6_1) t102 _ ?side1 ?side2 ?side3 ?side4 A5.out).mono ?_); (case side1 => exact tC HR0.out); (case side2 => exact HC0.out); (case side3 => exact tC HR101_0.out); (case side4 => exact HC101_0.out); rintro e w' ⟨rfl, ⟨nd, rfl⟩⟩; (try first | exact ⟨rfl, _, World.drewN_drewN _ _ _⟩ | exact ⟨rfl, _, Eq.trans (World.drewN_drewN _ _ _) (congrArg (World.drewN _) (Nat.add_assoc _ _ _))⟩); have p103 : 0 ≤ (x5_1 : Int) := of_decide_eq_true tA; have q103 : x5_1 < (l1.length : Int) := of_decide_eq_true tA; obtain ⟨ad103, A103_0, c103_0, e103, hx103_0, hl103_0, hi103_0⟩ := at_L2 HR1.out x5_1 p103 q103; obtain rfl : ad101 = ad103 := (by injection e103); have HR103_0 := Aside0.mk hi103_0; have HC103_0 := Aside0.mk hl103_0; clear hi103_0 hl103_0; replace p103 := eq_true p103; replace q103 := eq_true q103) | (go_at_call 70; (with_reducible refine (earshotref03_Distance.calls k1 _ _ l0 _ _ (rd_L2 l1 x5_1) t104 _ ?side1 ?side2 ?side3 ?side4 A8.out).mono ?_); (case side1 => exact tC HR0.out); (case side2 => exact HC0.out); (case side3 => exact tC HR103_0.out); (case side4 => exact HC103_0.out); rintro e w' ⟨rfl, ⟨nd, rfl⟩⟩; (try first | exact ⟨rfl, _, World.drewN_drewN _ _ _⟩ | exact ⟨rfl, _, Eq.trans (World.drewN_drewN _ _ _) (congrArg (World.drewN _) (Nat.add_assoc _ _ _))⟩)))
        repeat (go_quiet (first | (go_at_call 70; (with_reducible refine (earshotref03_Distance.calls k1 _ _ l0 _ _ (rd_L2 l1 x6_1) t102 _ ?side1 ?side2 ?side3 ?side4 A5.out).mono ?_); (case side1 => exact tC HR0.out); (case side2 => exact HC0.out); (case side3 => exact tC HR101_0.out); (case side4 => exact HC101_0.out); rintro e w' ⟨rfl, ⟨nd, rfl⟩⟩; (try first | exact ⟨rfl, _, World.drewN_drewN _ _ _⟩ | exact ⟨rfl, _, Eq.trans (World.drewN_drewN _ _ _) (congrArg (World.drewN _) (Nat.add_assoc _ _ _))⟩); have p103 : 0 ≤ (x5_1 : Int) := of_decide_eq_true tA; have q103 : x5_1 < (l1.length : Int) := of_decide_eq_true tA; obtain ⟨ad103, A103_0, c103_0, e103, hx103_0, hl103_0, hi103_0⟩ := at_L2 HR1.out x5_1 p103 q103; obtain rfl : ad101 = ad103 := (by injection e103); have HR103_0 := Aside0.mk hi103_0; have HC103_0 := Aside0.mk hl103_0; clear hi103_0 hl103_0; replace p103 := eq_true p103; replace q103 := eq_true q103) | (go_at_call 70; (with_reducible refine (earshotref03_Distance.calls k1 _ _ l0 _ _ (rd_L2 l1 x5_1) t104 _ ?side1 ?side2 ?side3 ?side4 A8.out).mono ?_); (case side1 => exact tC HR0.out); (case side2 => exact HC0.out); (case side3 => exact tC HR103_0.out); (case side4 => exact HC103_0.out); rintro e w' ⟨rfl, ⟨nd, rfl⟩⟩; (try first | exact ⟨rfl, _, World.drewN_drewN _ _ _⟩ | exact ⟨rfl, _, Eq.trans (World.drewN_drewN _ _ _) (congrArg (World.drewN _) (Nat.add_assoc _ _ _))⟩))); try go_wp2_with (first | (go_at_call 70; (with_reducible refine (earshotref03_Distance.calls k1 _ _ l0 _ _ (rd_L2 l1 x6_1) t102 _ ?side1 ?side2 ?side3 ?side4 A5.out).mono ?_); (case side1 => exact tC HR0.out); (case side2 => exact HC0.out); (case side3 => exact tC HR101_0.out); (case side4 => exact HC101_0.out); rintro e w' ⟨rfl, ⟨nd, rfl⟩⟩; (try first | exact ⟨rfl, _, World.drewN_drewN _ _ _⟩ | exact ⟨rfl, _, Eq.trans (World.drewN_drewN _ _ _) (congrArg (World.drewN _) (Nat.add_assoc _ _ _))⟩); have p103 : 0 ≤ (x5_1 : Int) := of_decide_eq_true tA; have q103 : x5_1 < (l1.length : Int) := of_decide_eq_true tA; obtain ⟨ad103, A103_0, c103_0, e103, hx103_0, hl103_0, hi103_0⟩ := at_L2 HR1.out x5_1 p103 q103; obtain rfl : ad101 = ad103 := (by injection e103); have HR103_0 := Aside0.mk hi103_0; have HC103_0 := Aside0.mk hl103_0; clear hi103_0 hl103_0; replace p103 := eq_true p103; replace q103 := eq_true q103) | (go_at_call 70; (with_reducible refine (earshotref03_Distance.calls k1 _ _ l0 _ _ (rd_L2 l1 x5_1) t104 _ ?side1 ?side2 ?side3 ?side4 A8.out).mono ?_); (case side1 => exact tC HR0.out); (case side2 => exact HC0.out); (case side3 => exact tC HR103_0.out); (case side4 => exact HC103_0.out); rintro e w' ⟨rfl, ⟨nd, rfl⟩⟩; (try first | exact ⟨rfl, _, World.drewN_drewN _ _ _⟩ | exact ⟨rfl, _, Eq.trans (World.drewN_drewN _ _ _) (congrArg (World.drewN _) (Nat.add_assoc _ _ _))⟩))))
        go_roundg k1
        case measure => have := HK1.out; omega
        case rel => exact ⟨(x5_1), (wrap64 (x6_1 + 1)), (by first | rfl | (simp; done) | (simp only [i64_w]; done) | (simp [*]; done)), (by first | rfl | (simp; done) | (simp only [i64_w]; done) | (simp [*]; done)), H', ⟨by have := HK1.out; omega⟩, by repeat (first | exact Drawn0.refl _ | apply Drawn0.step)⟩
      ·rw [if_neg c7] at H
       exact absurd H (by simp)
     ·rw [if_neg c6] at H
      exact absurd H (by simp)
    ·rw [if_neg c4] at H
     exact absurd H (by simp)
   ·rw [if_neg c3] at H
    have c3b0 := decide_eq_false c3
    clear c3
    obtain rfl := Option.some.inj H
    go_wp2
    repeat (go_quiet (fail); try go_wp2)
    go_ret
    exact ⟨by first | rfl | (simp; done) | (simp [*]; done), by repeat (first | exact Drawn0.refl _ | apply Drawn0.step)⟩

/-! ### earshotlaw03_FeatureNearest: function 17 -/
mutual
def earshotlaw03_FeatureNearest.j0 : Nat → List Int → List Int → List (List Int) → Bool → Option (Bool)
 | 0, _, _, _, _ => none
 | k + 1, x0, x1, x2, x35 => if x35 = true then ((earshotlaw03_known.f k).bind fun t102 => (some t102)) else ((feature_Distance.f k x0 x1).bind fun bt103 => ((earshotref03_Vectors.f k (([x0, x1] : List (List Int)))).bind fun t108 => (if t108 = true then (if bt103.2 = 0 then ((earshotref03_Distance.f k x0 x1).bind fun t109 => (if bt103.1 = t109 then (earshotlaw03_FeatureNearest.j1 k x0 x2) else (some false))) else (some false)) else (if bt103.2 = 2 then (if bt103.1 = 0 then (earshotlaw03_FeatureNearest.j1 k x0 x2) else (some false)) else (some false)))))
def earshotlaw03_FeatureNearest.j1 : Nat → List Int → List (List Int) → Option (Bool)
 | 0, _, _ => none
 | k + 1, x0, x2 => (feature_Nearest.f k x0 x2).bind fun bt110 => ((earshotref03_Vectors.f k (([x0] : List (List Int)))).bind fun t116 => (if t116 = true then ((earshotref03_Book.f k x2).bind fun t117 => (if t117 = true then (if 0 < (x2.length : Int) then (earshotlaw03_FeatureNearest.j2 k x0 x2 bt110.1 bt110.2.1 bt110.2.2 ((x0.length : Int) != ((rd_L2 x2 0).length : Int))) else (none)) else (earshotlaw03_FeatureNearest.j2 k x0 x2 bt110.1 bt110.2.1 bt110.2.2 true))) else (earshotlaw03_FeatureNearest.j2 k x0 x2 bt110.1 bt110.2.1 bt110.2.2 true)))
def earshotlaw03_FeatureNearest.j2 : Nat → List Int → List (List Int) → Int → Int → Int → Bool → Option (Bool)
 | 0, _, _, _, _, _, _ => none
 | k + 1, x0, x2, x9, x10, x11, x87 => if x87 = true then (if x11 = 2 then (if x9 = 0 then (if x10 = 0 then ((earshotlaw03_known.f k).bind fun t119 => (some t119)) else (some false)) else (some false)) else (some false)) else ((earshotref03_Nearest.f k x0 x2).bind fun t120 => (if x11 = 0 then (if x9 = t120 then (if 0 ≤ t120 then (if t120 < (x2.length : Int) then ((earshotref03_Distance.f k x0 (rd_L2 x2 t120)).bind fun t122 => (if x10 = t122 then ((earshotlaw03_known.f k).bind fun t123 => (some t123)) else (some false))) else (none)) else (none)) else (some false)) else (some false)))
end
def earshotlaw03_FeatureNearest.f (k : Nat) (l0 : List Int) (l1 : List Int) (l2 : List (List Int)) : Option (Bool) := if (l0.length : Int) > 70 then (earshotlaw03_FeatureNearest.j0 k l0 l1 l2 true) else (if (l1.length : Int) > 70 then (earshotlaw03_FeatureNearest.j0 k l0 l1 l2 true) else ((earshotlaw03_few.f k l2 40).bind fun t101 => (if t101 = true then (earshotlaw03_FeatureNearest.j0 k l0 l1 l2 (decide ((l2.length : Int) > 300))) else (if (l2.length : Int) ≤ 300 then (earshotlaw03_FeatureNearest.j0 k l0 l1 l2 true) else (earshotlaw03_FeatureNearest.j0 k l0 l1 l2 (decide ((l2.length : Int) > 300)))))))
theorem earshotlaw03_FeatureNearest.mono_l : ∀ k, (∀ y0 y1 y2 y3, LeO (earshotlaw03_FeatureNearest.j0 k y0 y1 y2 y3) (earshotlaw03_FeatureNearest.j0 (k + 1) y0 y1 y2 y3)) ∧ (∀ y0 y1, LeO (earshotlaw03_FeatureNearest.j1 k y0 y1) (earshotlaw03_FeatureNearest.j1 (k + 1) y0 y1)) ∧ (∀ y0 y1 y2 y3 y4 y5, LeO (earshotlaw03_FeatureNearest.j2 k y0 y1 y2 y3 y4 y5) (earshotlaw03_FeatureNearest.j2 (k + 1) y0 y1 y2 y3 y4 y5))
 | 0 => ⟨fun _ _ _ _ r h => by simp [earshotlaw03_FeatureNearest.j0] at h, fun _ _ r h => by simp [earshotlaw03_FeatureNearest.j1] at h, fun _ _ _ _ _ _ r h => by simp [earshotlaw03_FeatureNearest.j2] at h⟩
 | k + 1 => by
  obtain ⟨ih0, ih1, ih2⟩ := earshotlaw03_FeatureNearest.mono_l k
  refine ⟨?_, ?_, ?_⟩
  ·intro y0 y1 y2 y3
   unfold earshotlaw03_FeatureNearest.j0
   repeat' first
   | (with_reducible exact ih0 _ _ _ _)
   | (with_reducible exact ih1 _ _)
   | (with_reducible exact ih2 _ _ _ _ _ _)
   | (with_reducible exact earshotlaw03_few.mono _ _ _)
   | (with_reducible exact earshotlaw03_known.mono _)
   | (with_reducible exact earshotref03_Book.mono _ _)
   | (with_reducible exact earshotref03_Distance.mono _ _ _)
   | (with_reducible exact earshotref03_Nearest.mono _ _ _)
   | (with_reducible exact earshotref03_Vectors.mono _ _)
   | (with_reducible exact feature_Distance.mono _ _ _)
   | (with_reducible exact feature_Nearest.mono _ _ _)
   | (with_reducible exact LeO.refl _)
   | (with_reducible exact LeO.none _)
   | (with_reducible refine LeO.ite ?_ ?_)
   | (with_reducible refine LeO.bind ?_ (fun _ => ?_))
   | exact ih0 _ _ _ _
   | exact ih1 _ _
   | exact ih2 _ _ _ _ _ _
   | exact earshotlaw03_few.mono _ _ _
   | exact earshotlaw03_known.mono _
   | exact earshotref03_Book.mono _ _
   | exact earshotref03_Distance.mono _ _ _
   | exact earshotref03_Nearest.mono _ _ _
   | exact earshotref03_Vectors.mono _ _
   | exact feature_Distance.mono _ _ _
   | exact feature_Nearest.mono _ _ _
   | exact LeO.none _
   | refine LeO.ite ?_ ?_
   | refine LeO.bind ?_ (fun _ => ?_)
  ·intro y0 y1
   unfold earshotlaw03_FeatureNearest.j1
   repeat' first
   | (with_reducible exact ih0 _ _ _ _)
   | (with_reducible exact ih1 _ _)
   | (with_reducible exact ih2 _ _ _ _ _ _)
   | (with_reducible exact earshotlaw03_few.mono _ _ _)
   | (with_reducible exact earshotlaw03_known.mono _)
   | (with_reducible exact earshotref03_Book.mono _ _)
   | (with_reducible exact earshotref03_Distance.mono _ _ _)
   | (with_reducible exact earshotref03_Nearest.mono _ _ _)
   | (with_reducible exact earshotref03_Vectors.mono _ _)
   | (with_reducible exact feature_Distance.mono _ _ _)
   | (with_reducible exact feature_Nearest.mono _ _ _)
   | (with_reducible exact LeO.refl _)
   | (with_reducible exact LeO.none _)
   | (with_reducible refine LeO.ite ?_ ?_)
   | (with_reducible refine LeO.bind ?_ (fun _ => ?_))
   | exact ih0 _ _ _ _
   | exact ih1 _ _
   | exact ih2 _ _ _ _ _ _
   | exact earshotlaw03_few.mono _ _ _
   | exact earshotlaw03_known.mono _
   | exact earshotref03_Book.mono _ _
   | exact earshotref03_Distance.mono _ _ _
   | exact earshotref03_Nearest.mono _ _ _
   | exact earshotref03_Vectors.mono _ _
   | exact feature_Distance.mono _ _ _
   | exact feature_Nearest.mono _ _ _
   | exact LeO.none _
   | refine LeO.ite ?_ ?_
   | refine LeO.bind ?_ (fun _ => ?_)
  ·intro y0 y1 y2 y3 y4 y5
   unfold earshotlaw03_FeatureNearest.j2
   repeat' first
   | (with_reducible exact ih0 _ _ _ _)
   | (with_reducible exact ih1 _ _)
   | (with_reducible exact ih2 _ _ _ _ _ _)
   | (with_reducible exact earshotlaw03_few.mono _ _ _)
   | (with_reducible exact earshotlaw03_known.mono _)
   | (with_reducible exact earshotref03_Book.mono _ _)
   | (with_reducible exact earshotref03_Distance.mono _ _ _)
   | (with_reducible exact earshotref03_Nearest.mono _ _ _)
   | (with_reducible exact earshotref03_Vectors.mono _ _)
   | (with_reducible exact feature_Distance.mono _ _ _)
   | (with_reducible exact feature_Nearest.mono _ _ _)
   | (with_reducible exact LeO.refl _)
   | (with_reducible exact LeO.none _)
   | (with_reducible refine LeO.ite ?_ ?_)
   | (with_reducible refine LeO.bind ?_ (fun _ => ?_))
   | exact ih0 _ _ _ _
   | exact ih1 _ _
   | exact ih2 _ _ _ _ _ _
   | exact earshotlaw03_few.mono _ _ _
   | exact earshotlaw03_known.mono _
   | exact earshotref03_Book.mono _ _
   | exact earshotref03_Distance.mono _ _ _
   | exact earshotref03_Nearest.mono _ _ _
   | exact earshotref03_Vectors.mono _ _
   | exact feature_Distance.mono _ _ _
   | exact feature_Nearest.mono _ _ _
   | exact LeO.none _
   | refine LeO.ite ?_ ?_
   | refine LeO.bind ?_ (fun _ => ?_)
theorem earshotlaw03_FeatureNearest.mono : ∀ a0 a1 a2 k, LeO (earshotlaw03_FeatureNearest.f k a0 a1 a2) (earshotlaw03_FeatureNearest.f (k + 1) a0 a1 a2) := by
 intro a0 a1 a2 k
 obtain ⟨ih0, ih1, ih2⟩ := earshotlaw03_FeatureNearest.mono_l k
 unfold earshotlaw03_FeatureNearest.f
 repeat' first
   | (with_reducible exact ih0 _ _ _ _)
   | (with_reducible exact ih1 _ _)
   | (with_reducible exact ih2 _ _ _ _ _ _)
   | (with_reducible exact earshotlaw03_few.mono _ _ _)
   | (with_reducible exact earshotlaw03_known.mono _)
   | (with_reducible exact earshotref03_Book.mono _ _)
   | (with_reducible exact earshotref03_Distance.mono _ _ _)
   | (with_reducible exact earshotref03_Nearest.mono _ _ _)
   | (with_reducible exact earshotref03_Vectors.mono _ _)
   | (with_reducible exact feature_Distance.mono _ _ _)
   | (with_reducible exact feature_Nearest.mono _ _ _)
   | (with_reducible exact LeO.refl _)
   | (with_reducible exact LeO.none _)
   | (with_reducible refine LeO.ite ?_ ?_)
   | (with_reducible refine LeO.bind ?_ (fun _ => ?_))
   | exact ih0 _ _ _ _
   | exact ih1 _ _
   | exact ih2 _ _ _ _ _ _
   | exact earshotlaw03_few.mono _ _ _
   | exact earshotlaw03_known.mono _
   | exact earshotref03_Book.mono _ _
   | exact earshotref03_Distance.mono _ _ _
   | exact earshotref03_Nearest.mono _ _ _
   | exact earshotref03_Vectors.mono _ _
   | exact feature_Distance.mono _ _ _
   | exact feature_Nearest.mono _ _ _
   | exact LeO.none _
   | refine LeO.ite ?_ ?_
   | refine LeO.bind ?_ (fun _ => ?_)
set_option maxHeartbeats 8000000 in
set_option maxRecDepth 100000 in
theorem earshotlaw03_FeatureNearest.calls (k : Nat) (P0_ : Nat → Prop) (A0 : Option Addr) (c0 : Nat) (l0 : List Int) (P1_ : Nat → Prop) (A1 : Option Addr) (c1 : Nat) (l1 : List Int) (A2 : Option Addr) (c2 : Nat) (l2 : List (List Int)) (r : Bool) (w : World) (ht : Kd.C (Kd.int .i64) w (some ⟨0, 0, none⟩) 65 tabL) (hs0 : Kd.V (Kd.int .i64) 3 w w.heap.size (fun k_ => P0_ k_) (.slice A0 l0.length c0) l0) (hs1 : Kd.V (Kd.int .i64) 3 w w.heap.size (fun k_ => P1_ k_) (.slice A1 l1.length c1) l1) (hr2 : Kd.C (Kd.slice 3 (Kd.int .i64)) w A2 l2.length l2) (hc2 : l2.length ≤ c2) (h : earshotlaw03_FeatureNearest.f k l0 l1 l2 = some r) :
  Calls Tryd.prog 17 #[.slice A0 l0.length c0, .slice A1 l1.length c1, .slice A2 l2.length c2] w fun e w' => e = .returned (.bool r) ∧ Below w.heap.size w w' := by
 have HRT := Aside0.mk ht
 clear ht
 have HO0 := Aside0.mk (show Kd.V (Kd.int .i64) 3 w w.heap.size (fun k_ => ((P0_ k_ ∨ P1_ k_) ∨ w.heap.size ≤ k_)) (.slice A0 l0.length c0) l0 from Kd.V_mono hs0 (fun k_ hk => .inl (.inl hk)))
 have HO1 := Aside0.mk (show Kd.V (Kd.int .i64) 3 w w.heap.size (fun k_ => ((P0_ k_ ∨ P1_ k_) ∨ w.heap.size ≤ k_)) (.slice A1 l1.length c1) l1 from Kd.V_mono hs1 (fun k_ hk => .inl (.inr hk)))
 have HR2 := Aside0.mk hr2
 have HC2 := Aside0.mk hc2
 clear hr2 hc2
 have HB := Aside0.mk (Below.refl w.heap.size w)
 have H : (if (l0.length : Int) > 70 then (earshotlaw03_FeatureNearest.j0 k l0 l1 l2 true) else (if (l1.length : Int) > 70 then (earshotlaw03_FeatureNearest.j0 k l0 l1 l2 true) else ((earshotlaw03_few.f k l2 40).bind fun t101 => (if t101 = true then (earshotlaw03_FeatureNearest.j0 k l0 l1 l2 (decide ((l2.length : Int) > 300))) else (if (l2.length : Int) ≤ 300 then (earshotlaw03_FeatureNearest.j0 k l0 l1 l2 true) else (earshotlaw03_FeatureNearest.j0 k l0 l1 l2 (decide ((l2.length : Int) > 300)))))))) = some r := h
 clear h
 have HC4 := Aside0.mk H
 clear H
 go_enter Tryd.func17, Tryd.ntmps17
 go_upto_region 1 with (fail)
 go_cut [35] (fun v35 wc => ∃ (kq : Nat) (x35_3 : Bool), v35 = .bool x35_3 ∧ Aside0 (earshotlaw03_FeatureNearest.j0 kq l0 l1 l2 x35_3 = some r) ∧ Aside0 (kq ≤ k) ∧ Aside0 (Kd.V (Kd.int .i64) 3 wc w.heap.size (fun k_ => ((P0_ k_ ∨ P1_ k_) ∨ w.heap.size ≤ k_)) (.slice A0 l0.length c0) l0) ∧ Aside0 (Kd.V (Kd.int .i64) 3 wc w.heap.size (fun k_ => ((P0_ k_ ∨ P1_ k_) ∨ w.heap.size ≤ k_)) (.slice A1 l1.length c1) l1) ∧ Aside0 (Below w.heap.size w wc))
 case first =>
  have H := HC4.out
  clear HC4
  by_cases c5 : (l0.length : Int) > 70
  ·rw [if_pos c5] at H
   have c5b0 : decide (70 < (l0.length : Int)) = true := decide_eq_true c5
   have c5b1 : decide (70 < l0.length) = true := decide_eq_true (by omega)
   clear c5
   (first | rw [c5b0] | (simp only [i64_w, i32_w]; rw [c5b0]) | skip)
   have H' := Aside0.mk H
   clear H
   go_wp2
   go_meet
   case rel => exact ⟨_, (true), (by first | rfl | (simp; done) | (simp only [i64_w]; done) | (simp [*]; done)), H', ⟨by first | omega | exact Nat.le_refl _⟩, ⟨tV HO0.out⟩, ⟨tV HO1.out⟩, ⟨tB⟩⟩
  ·rw [if_neg c5] at H
   have c5b0 : decide (70 < (l0.length : Int)) = false := decide_eq_false c5
   have c5b1 : decide (70 < l0.length) = false := decide_eq_false (by omega)
   clear c5
   (first | rw [c5b0] | (simp only [i64_w, i32_w]; rw [c5b0]) | skip)
   by_cases c6 : (l1.length : Int) > 70
   ·rw [if_pos c6] at H
    have c6b0 : decide (70 < (l1.length : Int)) = true := decide_eq_true c6
    have c6b1 : decide (70 < l1.length) = true := decide_eq_true (by omega)
    clear c6
    have H' := Aside0.mk H
    clear H
    go_wp2
    go_meet
    case rel => exact ⟨_, (true), (by first | rfl | (simp; done) | (simp only [i64_w]; done) | (simp [*]; done)), H', ⟨by first | omega | exact Nat.le_refl _⟩, ⟨tV HO0.out⟩, ⟨tV HO1.out⟩, ⟨tB⟩⟩
   ·rw [if_neg c6] at H
    have c6b0 : decide (70 < (l1.length : Int)) = false := decide_eq_false c6
    have c6b1 : decide (70 < l1.length) = false := decide_eq_false (by omega)
    clear c6
    replace H := Option.bind_eq_some_iff.mp H
    obtain ⟨t101, A70, H⟩ := H
    try dsimp only at H
    have A7 := Aside0.mk A70
    clear A70
    by_cases c8 : t101 = true
    ·subst c8
     have H1 : (earshotlaw03_FeatureNearest.j0 k l0 l1 l2 (decide ((l2.length : Int) > 300))) = some r := by rw [if_pos rfl] at H; exact H
     clear H
     have H := H1
     clear H1
     have H' := Aside0.mk H
     clear H
     go_wp2_with (first | (go_at_call 55; (with_reducible refine (earshotlaw03_few.calls k _ _ l2 40 true _ ?side1 ?side2 A7.out).mono ?_); (case side1 => exact tC (Kd.C_below HR2.out HB.out)); (case side2 => exact HC2.out); rintro e w' ⟨rfl, ⟨nd, rfl⟩⟩))
     go_meet
     case rel => exact ⟨_, (decide ((l2.length : Int) > 300)), (by first | rfl | (simp; done) | (simp only [i64_w]; done) | (simp [*]; done)), H', ⟨by first | omega | exact Nat.le_refl _⟩, ⟨tV HO0.out⟩, ⟨tV HO1.out⟩, ⟨tB⟩⟩
    ·replace c8 := Bool.eq_false_iff.mpr c8
     subst c8
     have H1 : (if (l2.length : Int) ≤ 300 then (earshotlaw03_FeatureNearest.j0 k l0 l1 l2 true) else (earshotlaw03_FeatureNearest.j0 k l0 l1 l2 (decide ((l2.length : Int) > 300)))) = some r := by rw [if_neg (show ¬ (false = true) by decide)] at H; exact H
     clear H
     have H := H1
     clear H1
     by_cases c9 : (l2.length : Int) ≤ 300
     ·rw [if_pos c9] at H
      have c9b0 := decide_eq_true c9
      have c9b1 : decide (l2.length ≤ 300) = true := decide_eq_true (by omega)
      clear c9
      have H' := Aside0.mk H
      clear H
      go_wp2_with (first | (go_at_call 55; (with_reducible refine (earshotlaw03_few.calls k _ _ l2 40 false _ ?side1 ?side2 A7.out).mono ?_); (case side1 => exact tC (Kd.C_below HR2.out HB.out)); (case side2 => exact HC2.out); rintro e w' ⟨rfl, ⟨nd, rfl⟩⟩))
      go_meet
      case rel => exact ⟨_, (true), (by first | rfl | (simp; done) | (simp only [i64_w]; done) | (simp [*]; done)), H', ⟨by first | omega | exact Nat.le_refl _⟩, ⟨tV HO0.out⟩, ⟨tV HO1.out⟩, ⟨tB⟩⟩
     ·rw [if_neg c9] at H
      have c9b0 := decide_eq_false c9
      have c9b1 : decide (l2.length ≤ 300) = false := decide_eq_false (by omega)
      clear c9
      have H' := Aside0.mk H
      clear H
      go_wp2_with (first | (go_at_call 55; (with_reducible refine (earshotlaw03_few.calls k _ _ l2 40 false _ ?side1 ?side2 A7.out).mono ?_); (case side1 => exact tC (Kd.C_below HR2.out HB.out)); (case side2 => exact HC2.out); rintro e w' ⟨rfl, ⟨nd, rfl⟩⟩))
      go_meet
      case rel => exact ⟨_, (decide ((l2.length : Int) > 300)), (by first | rfl | (simp; done) | (simp only [i64_w]; done) | (simp [*]; done)), H', ⟨by first | omega | exact Nat.le_refl _⟩, ⟨tV HO0.out⟩, ⟨tV HO1.out⟩, ⟨tB⟩⟩
 case rest =>
  clear HC4
  try clear c1
  try clear c2
  try clear p2
  try clear c5
  try clear c5b0
  try clear c5b1
  try clear c6
  try clear c6b0
  try clear c6b1
  try clear c8
  try clear c9
  try clear c9b0
  try clear c9b1
  obtain ⟨kq, x35_3, rfl, HA, HJ3, HO_0, HO_1, HB⟩ := hcut
  cases kq with
  | zero => exact absurd HA.out (by simp [earshotlaw03_FeatureNearest.j0])
  | succ kj3 =>
   have H := HA.out
   clear HA
   simp only [earshotlaw03_FeatureNearest.j0] at H
   by_cases c10 : x35_3 = true
   ·subst c10
    have H1 : ((earshotlaw03_known.f kj3).bind fun t102 => (some t102)) = some r := by rw [if_pos rfl] at H; exact H
    clear H
    have H := H1
    clear H1
    replace H := Option.bind_eq_some_iff.mp H
    obtain ⟨t102, A110, H⟩ := H
    try dsimp only at H
    have A11 := Aside0.mk A110
    clear A110
    obtain rfl := Option.some.inj H
    go_wp2_with (first | ((with_reducible refine gate_callee (f := 22) rfl ?_); refine goesL_ (some 36) rfl rfl Tryd.func22 (by kernel_rfl) rfl #[] rfl tL ?_; (with_reducible refine (earshotlaw03_known.calls kj3  t102 _ ?side1 A11.out).mono ?_); (case side1 => exact tC (Kd.C_below HRT.out HB.out)); rintro e w12 ⟨rfl, hb⟩; refine ⟨_, rfl, ?_⟩; replace HO_0 := Aside0.mk (Kd.V_below (tV HO_0.out) hb); replace HO_1 := Aside0.mk (Kd.V_below (tV HO_1.out) hb); replace HB := Aside0.mk (below_step tB hb); (try clear hb); (try clear hb2); (try clear hk); (try clear hi)))
    go_ret
    exact ⟨by first | rfl | (simp [errW_none, errW_some] <;> rfl) | (simp [*, errW_none, errW_some] <;> rfl), tB⟩
   ·replace c10 := Bool.eq_false_iff.mpr c10
    subst c10
    have H1 : ((feature_Distance.f kj3 l0 l1).bind fun bt103 => ((earshotref03_Vectors.f kj3 (([l0, l1] : List (List Int)))).bind fun t108 => (if t108 = true then (if bt103.2 = 0 then ((earshotref03_Distance.f kj3 l0 l1).bind fun t109 => (if bt103.1 = t109 then (earshotlaw03_FeatureNearest.j1 kj3 l0 l2) else (some false))) else (some false)) else (if bt103.2 = 2 then (if bt103.1 = 0 then (earshotlaw03_FeatureNearest.j1 kj3 l0 l2) else (some false)) else (some false))))) = some r := by rw [if_neg (show ¬ (false = true) by decide)] at H; exact H
    clear H
    have H := H1
    clear H1
    replace H := Option.bind_eq_some_iff.mp H
    obtain ⟨⟨t103, t104⟩, A130, H⟩ := H
    try dsimp only at H
    have A13 := Aside0.mk A130
    clear A130
    obtain ⟨y105, hy105⟩ : ∃ y_ : List (List Int), y_ = (([l0, l1] : List (List Int))) := ⟨_, rfl⟩
    replace H : ((earshotref03_Vectors.f kj3 y105).bind fun t108 => (if t108 = true then (if t104 = 0 then ((earshotref03_Distance.f kj3 l0 l1).bind fun t109 => (if t103 = t109 then (earshotlaw03_FeatureNearest.j1 kj3 l0 l2) else (some false))) else (some false)) else (if t104 = 2 then (if t103 = 0 then (earshotlaw03_FeatureNearest.j1 kj3 l0 l2) else (some false)) else (some false)))) = some r := by first | (rw [hy105]; with_reducible exact H) | (have H2_ := (Option.bind_some _ _).symm.trans H; rw [hy105]; with_reducible exact H2_) | (have H2_ := (Option.bind_some _ _).symm.trans H; with_reducible exact H2_) | with_reducible exact H | (rw [hy105]; exact H) | exact H
    have Ny105 := Aside0.mk hy105
    clear hy105
    replace H := Option.bind_eq_some_iff.mp H
    obtain ⟨t108, A140, H⟩ := H
    try dsimp only at H
    have A14 := Aside0.mk A140
    clear A140
    have HC15 := Aside0.mk H
    clear H
    go_upto_if 47 with (first | ((with_reducible refine gate_callee (f := 69) rfl ?_); refine goesL_ (some 40) rfl rfl Tryd.func69 (by kernel_rfl) rfl #[.slice A0 l0.length c0, .slice A1 l1.length c1] rfl tL ?_; (with_reducible refine (feature_Distance.calls kj3 (fun k_ => ((P0_ k_ ∨ P1_ k_) ∨ w.heap.size ≤ k_)) _ _ l0 (fun k_ => ((P0_ k_ ∨ P1_ k_) ∨ w.heap.size ≤ k_)) _ _ l1 t103 t104 _ ?side1 ?side2 A13.out).mono ?_); (case side1 => exact HO_0.out); (case side2 => exact HO_1.out); rintro e w16 ⟨rfl, hb⟩; refine ⟨_, rfl, ?_⟩; replace HO_0 := Aside0.mk (Kd.V_below (tV HO_0.out) hb); replace HO_1 := Aside0.mk (Kd.V_below (tV HO_1.out) hb); replace HB := Aside0.mk (below_step tB hb); (try clear hb); (try clear hb2); (try clear hk); (try clear hi)) | ((with_reducible refine gate_dst (N := 45) rfl ?_); (try (refine gate_guard (by rfl) ?_; dsimp only)); refine Kd.N_lit (Kd.slice 3 (Kd.int .i64)) _ 22 ?hg (N' := 45) ?hd (xs := ([l0, l1] : List (List Int))) (inner := [.slice A0 l0.length c0, .slice A1 l1.length c1]) (ok := (fun k_ => ((P0_ k_ ∨ P1_ k_) ∨ w.heap.size ≤ k_))) (okp := (fun k_ => ((P0_ k_ ∨ P1_ k_) ∨ w.heap.size ≤ k_))) ?hr ?hp (fun _ hk => hk) ((show ∀ k_, w16.heap.size ≤ k_ → (fun k_ => ((P0_ k_ ∨ P1_ k_) ∨ w.heap.size ≤ k_)) k_ from fun k_ hk => (.inr (Nat.le_trans (below_size tB) hk))) _ (Nat.le_refl _)) (Below.refl _ _) (Nat.le_refl _) (by simp) ?_; (case hd => rfl); (case hg => rfl); (case hr => first | (go_simp; done) | (go_simp; rfl)); (case hp => exact (Reps.one (show Kd.FK (Kd.slice 3 (Kd.int .i64)) _ _ l0 [.slice A0 l0.length c0] from (Kd.FK_slice_mk (Kd.V_reads' (Kd.V_mono (ok' := (fun k_ => ((P0_ k_ ∨ P1_ k_) ∨ w.heap.size ≤ k_))) (HO_0.out) (fun k_ hk => hk))).2.1 (Kd.V_F (Kd.V_mono (ok' := (fun k_ => ((P0_ k_ ∨ P1_ k_) ∨ w.heap.size ≤ k_))) (HO_0.out) (fun k_ hk => hk))))) (Reps.one (show Kd.FK (Kd.slice 3 (Kd.int .i64)) _ _ l1 [.slice A1 l1.length c1] from (Kd.FK_slice_mk (Kd.V_reads' (Kd.V_mono (ok' := (fun k_ => ((P0_ k_ ∨ P1_ k_) ∨ w.heap.size ≤ k_))) (HO_1.out) (fun k_ hk => hk))).2.1 (Kd.V_F (Kd.V_mono (ok' := (fun k_ => ((P0_ k_ ∨ P1_ k_) ∨ w.heap.size ≤ k_))) (HO_1.out) (fun k_ hk => hk))))) (Reps.none _ _)))); intro v106 w17 ho18 hb hg_ hnew_; clear hg_ hnew_; (first | rw [← Ny105.out] at ho18 | (simp only [Int.reduceToNat] at ho18; rw [← Ny105.out] at ho18)); replace HO_0 := Aside0.mk (Kd.V_elder' (tV HO_0.out) (Kd.N_base ho18) hb); replace HO_1 := Aside0.mk (Kd.V_elder' (tV HO_1.out) (Kd.N_base ho18) hb); have HO107 := Aside0.mk (Kd.N_lower ho18 (below_size tB)); replace HB := Aside0.mk (below_step tB hb); clear hb ho18; obtain ⟨Ao19, co19, eo19⟩ := Kd.N_slice HO107.out; subst eo19) | ((with_reducible refine gate_callee (f := 61) rfl ?_); refine goesL_ (some 46) rfl rfl Tryd.func61 (by kernel_rfl) rfl #[.slice Ao19 y105.length co19] rfl tL ?_; (with_reducible refine (earshotref03_Vectors.calls kj3 _ _ y105 t108 _ ?side1 ?side2 A14.out).mono ?_); (case side1 => exact tC (Kd.N_reads' HO107.out).2.2); (case side2 => exact (Kd.N_reads' HO107.out).2.1); rintro e w20 ⟨rfl, hb⟩; refine ⟨_, rfl, ?_⟩; replace HO_0 := Aside0.mk (Kd.V_below (tV HO_0.out) hb); replace HO_1 := Aside0.mk (Kd.V_below (tV HO_1.out) hb); replace HO107 := Aside0.mk (Kd.N_below (tN HO107.out) hb); replace HB := Aside0.mk (below_step tB hb); (try clear hb); (try clear hb2); (try clear hk); (try clear hi)))
    (try simp only [Act.put, List.setIfInBounds_toArray, List.set_cons_zero, List.set_cons_succ])
    go_cut [] (fun wc => ∃ (kq : Nat), Aside0 (earshotlaw03_FeatureNearest.j1 kq l0 l2 = some r) ∧ Aside0 (kq ≤ kj3) ∧ Aside0 (Kd.V (Kd.int .i64) 3 wc w.heap.size (fun k_ => ((P0_ k_ ∨ P1_ k_) ∨ w.heap.size ≤ k_)) (.slice A0 l0.length c0) l0) ∧ Aside0 (Below w.heap.size w wc))
    case first =>
     have H := HC15.out
     clear HC15
     by_cases c21 : t108 = true
     ·subst c21
      have H1 : (if t104 = 0 then ((earshotref03_Distance.f kj3 l0 l1).bind fun t109 => (if t103 = t109 then (earshotlaw03_FeatureNearest.j1 kj3 l0 l2) else (some false))) else (some false)) = some r := by rw [if_pos rfl] at H; exact H
      clear H
      have H := H1
      clear H1
      by_cases c22 : t104 = 0
      ·rw [if_pos c22] at H
       have c22b0 : (t104 == 0) = true := beq_iff_eq.mpr c22
       have c22b1 : (t104 != 0) = false := bne_eq_false_iff_eq.mpr c22
       clear c22
       (first | rw [c22b0] | (simp only [i64_w, i32_w]; rw [c22b0]) | skip)
       replace H := Option.bind_eq_some_iff.mp H
       obtain ⟨t109, A230, H⟩ := H
       try dsimp only at H
       have A23 := Aside0.mk A230
       clear A230
       by_cases c24 : t103 = t109
       ·rw [if_pos c24] at H
        have c24b0 : (t103 == t109) = true := beq_iff_eq.mpr c24
        have c24b1 : (t103 != t109) = false := bne_eq_false_iff_eq.mpr c24
        clear c24
        have H' := Aside0.mk H
        clear H
        go_wp2_with (first | (go_at_call 70; (with_reducible refine (earshotref03_Distance.calls kj3 _ _ l0 _ _ l1 t109 _ ?side1 ?side2 ?side3 ?side4 A23.out).mono ?_); (case side1 => exact tC (Kd.V_reads' HO_0.out).2.2); (case side2 => exact (Kd.V_reads' HO_0.out).2.1); (case side3 => exact tC (Kd.V_reads' HO_1.out).2.2); (case side4 => exact (Kd.V_reads' HO_1.out).2.1); rintro e w' ⟨rfl, ⟨nd, rfl⟩⟩))
        go_meet
        case rel => exact ⟨_, H', ⟨by have := HJ3.out; first | omega | exact Nat.le_refl _⟩, ⟨by (with_reducible repeat (first | apply Kd.V_alloc | apply Kd.V_drewN | apply Kd.V_drew)); exact Kd.V_mono HO_0.out (fun _ hk => hk.1)⟩, ⟨tB⟩⟩
       ·rw [if_neg c24] at H
        have c24b0 : (t103 == t109) = false := beq_eq_false_iff_ne.mpr c24
        have c24b1 : (t103 != t109) = true := bne_iff_ne.mpr c24
        obtain rfl := Option.some.inj H
        go_wp2_with (first | (go_at_call 70; (with_reducible refine (earshotref03_Distance.calls kj3 _ _ l0 _ _ l1 t109 _ ?side1 ?side2 ?side3 ?side4 A23.out).mono ?_); (case side1 => exact tC (Kd.V_reads' HO_0.out).2.2); (case side2 => exact (Kd.V_reads' HO_0.out).2.1); (case side3 => exact tC (Kd.V_reads' HO_1.out).2.2); (case side4 => exact (Kd.V_reads' HO_1.out).2.1); rintro e w' ⟨rfl, ⟨nd, rfl⟩⟩))
        go_ret
        exact ⟨by first | rfl | (simp [errW_none, errW_some] <;> rfl) | (simp [*, errW_none, errW_some] <;> rfl), tB⟩
      ·rw [if_neg c22] at H
       have c22b0 : (t104 == 0) = false := beq_eq_false_iff_ne.mpr c22
       have c22b1 : (t104 != 0) = true := bne_iff_ne.mpr c22
       (first | rw [c22b0] | (simp only [i64_w, i32_w]; rw [c22b0]) | skip)
       obtain rfl := Option.some.inj H
       go_wp2
       go_ret
       exact ⟨by first | rfl | (simp [errW_none, errW_some] <;> rfl) | (simp [*, errW_none, errW_some] <;> rfl), tB⟩
     ·replace c21 := Bool.eq_false_iff.mpr c21
      subst c21
      have H1 : (if t104 = 2 then (if t103 = 0 then (earshotlaw03_FeatureNearest.j1 kj3 l0 l2) else (some false)) else (some false)) = some r := by rw [if_neg (show ¬ (false = true) by decide)] at H; exact H
      clear H
      have H := H1
      clear H1
      by_cases c25 : t104 = 2
      ·rw [if_pos c25] at H
       have c25b0 : (t104 == 2) = true := beq_iff_eq.mpr c25
       have c25b1 : (t104 != 2) = false := bne_eq_false_iff_eq.mpr c25
       clear c25
       by_cases c26 : t103 = 0
       ·rw [if_pos c26] at H
        have c26b0 : (t103 == 0) = true := beq_iff_eq.mpr c26
        have c26b1 : (t103 != 0) = false := bne_eq_false_iff_eq.mpr c26
        clear c26
        have H' := Aside0.mk H
        clear H
        go_wp2
        go_meet
        case rel => exact ⟨_, H', ⟨by have := HJ3.out; first | omega | exact Nat.le_refl _⟩, ⟨by (with_reducible repeat (first | apply Kd.V_alloc | apply Kd.V_drewN | apply Kd.V_drew)); exact Kd.V_mono HO_0.out (fun _ hk => hk.1)⟩, ⟨tB⟩⟩
       ·rw [if_neg c26] at H
        have c26b0 : (t103 == 0) = false := beq_eq_false_iff_ne.mpr c26
        have c26b1 : (t103 != 0) = true := bne_iff_ne.mpr c26
        obtain rfl := Option.some.inj H
        go_wp2
        go_ret
        exact ⟨by first | rfl | (simp [errW_none, errW_some] <;> rfl) | (simp [*, errW_none, errW_some] <;> rfl), tB⟩
      ·rw [if_neg c25] at H
       have c25b0 : (t104 == 2) = false := beq_eq_false_iff_ne.mpr c25
       have c25b1 : (t104 != 2) = true := bne_iff_ne.mpr c25
       obtain rfl := Option.some.inj H
       go_wp2
       go_ret
       exact ⟨by first | rfl | (simp [errW_none, errW_some] <;> rfl) | (simp [*, errW_none, errW_some] <;> rfl), tB⟩
    case rest =>
     clear HC15
     try clear c1
     try clear c2
     try clear p2
     try clear c5
     try clear c5b0
     try clear c5b1
     try clear c6
     try clear c6b0
     try clear c6b1
     try clear c8
     try clear c9
     try clear c9b0
     try clear c9b1
     try clear c10
     try clear c17
     try clear c21
     try clear c22
     try clear c22b0
     try clear c22b1
     try clear c24
     try clear c24b0
     try clear c24b1
     try clear c25
     try clear c25b0
     try clear c25b1
     try clear c26
     try clear c26b0
     try clear c26b1
     try clear p2
     obtain ⟨kq, HA, HJ14, HO_0, HB⟩ := hcut
     cases kq with
     | zero => exact absurd HA.out (by simp [earshotlaw03_FeatureNearest.j1])
     | succ kj14 =>
      have H := HA.out
      clear HA
      simp only [earshotlaw03_FeatureNearest.j1] at H
      replace H := Option.bind_eq_some_iff.mp H
      obtain ⟨⟨t110, t111, t112⟩, A270, H⟩ := H
      try dsimp only at H
      have A27 := Aside0.mk A270
      clear A270
      have HC28 := Aside0.mk H
      clear H
      go_upto_region 10 with (first | ((with_reducible refine gate_callee (f := 71) rfl ?_); refine goesL_ (some 66) rfl rfl Tryd.func71 (by kernel_rfl) rfl #[.slice A0 l0.length c0, .slice A2 l2.length c2] rfl tL ?_; (with_reducible refine (feature_Nearest.calls kj14 (fun k_ => ((P0_ k_ ∨ P1_ k_) ∨ w.heap.size ≤ k_)) _ _ l0 _ _ l2 t110 t111 t112 _ ?side1 ?side2 ?side3 A27.out).mono ?_); (case side1 => exact HO_0.out); (case side2 => exact tC (Kd.C_below HR2.out HB.out)); (case side3 => exact HC2.out); rintro e w29 ⟨rfl, hb⟩; refine ⟨_, rfl, ?_⟩; replace HO_0 := Aside0.mk (Kd.V_below (tV HO_0.out) hb); replace HB := Aside0.mk (below_step tB hb); (try clear hb); (try clear hb2); (try clear hk); (try clear hi)))
      (try simp only [Act.put, List.setIfInBounds_toArray, List.set_cons_zero, List.set_cons_succ])
      go_cut [87] (fun v87 wc => ∃ (kq : Nat) (x87_27 : Bool), v87 = .bool x87_27 ∧ Aside0 (earshotlaw03_FeatureNearest.j2 kq l0 l2 t110 t111 t112 x87_27 = some r) ∧ Aside0 (kq ≤ kj14) ∧ Aside0 (Kd.V (Kd.int .i64) 3 wc w.heap.size (fun k_ => ((P0_ k_ ∨ P1_ k_) ∨ w.heap.size ≤ k_)) (.slice A0 l0.length c0) l0) ∧ Aside0 (Below w.heap.size w wc))
      case first =>
       have H := HC28.out
       clear HC28
       obtain ⟨y113, hy113⟩ : ∃ y_ : List (List Int), y_ = (([l0] : List (List Int))) := ⟨_, rfl⟩
       replace H : ((earshotref03_Vectors.f kj14 y113).bind fun t116 => (if t116 = true then ((earshotref03_Book.f kj14 l2).bind fun t117 => (if t117 = true then (if 0 < (l2.length : Int) then (earshotlaw03_FeatureNearest.j2 kj14 l0 l2 t110 t111 t112 ((l0.length : Int) != ((rd_L2 l2 0).length : Int))) else (none)) else (earshotlaw03_FeatureNearest.j2 kj14 l0 l2 t110 t111 t112 true))) else (earshotlaw03_FeatureNearest.j2 kj14 l0 l2 t110 t111 t112 true))) = some r := by first | (rw [hy113]; with_reducible exact H) | (have H2_ := (Option.bind_some _ _).symm.trans H; rw [hy113]; with_reducible exact H2_) | (have H2_ := (Option.bind_some _ _).symm.trans H; with_reducible exact H2_) | with_reducible exact H | (rw [hy113]; exact H) | exact H
       have Ny113 := Aside0.mk hy113
       clear hy113
       replace H := Option.bind_eq_some_iff.mp H
       obtain ⟨t116, A300, H⟩ := H
       try dsimp only at H
       have A30 := Aside0.mk A300
       clear A300
       by_cases c31 : t116 = true
       ·subst c31
        have H1 : ((earshotref03_Book.f kj14 l2).bind fun t117 => (if t117 = true then (if 0 < (l2.length : Int) then (earshotlaw03_FeatureNearest.j2 kj14 l0 l2 t110 t111 t112 ((l0.length : Int) != ((rd_L2 l2 0).length : Int))) else (none)) else (earshotlaw03_FeatureNearest.j2 kj14 l0 l2 t110 t111 t112 true))) = some r := by rw [if_pos rfl] at H; exact H
        clear H
        have H := H1
        clear H1
        replace H := Option.bind_eq_some_iff.mp H
        obtain ⟨t117, A320, H⟩ := H
        try dsimp only at H
        have A32 := Aside0.mk A320
        clear A320
        by_cases c33 : t117 = true
        ·subst c33
         have H1 : (if 0 < (l2.length : Int) then (earshotlaw03_FeatureNearest.j2 kj14 l0 l2 t110 t111 t112 ((l0.length : Int) != ((rd_L2 l2 0).length : Int))) else (none)) = some r := by rw [if_pos rfl] at H; exact H
         clear H
         have H := H1
         clear H1
         by_cases c34 : 0 < (l2.length : Int)
         ·rw [if_pos c34] at H
          have c34b0 := decide_eq_true c34
          have c34b1 : decide (0 < l2.length) = true := decide_eq_true (by omega)
          clear c34
          (first | rw [c34b0] | (simp only [i64_w, i32_w]; rw [c34b0]) | skip)
          have H' := Aside0.mk H
          clear H
          go_wp2_with (first | ((with_reducible refine gate_dst (N := 71) rfl ?_); (try (refine gate_guard (by rfl) ?_; dsimp only)); refine Kd.N_lit (Kd.slice 3 (Kd.int .i64)) _ 22 ?hg (N' := 71) ?hd (xs := ([l0] : List (List Int))) (inner := [.slice A0 l0.length c0]) (ok := (fun k_ => ((P0_ k_ ∨ P1_ k_) ∨ w.heap.size ≤ k_))) (okp := (fun k_ => ((P0_ k_ ∨ P1_ k_) ∨ w.heap.size ≤ k_))) ?hr ?hp (fun _ hk => hk) ((show ∀ k_, w29.heap.size ≤ k_ → (fun k_ => ((P0_ k_ ∨ P1_ k_) ∨ w.heap.size ≤ k_)) k_ from fun k_ hk => (.inr (Nat.le_trans (below_size tB) hk))) _ (Nat.le_refl _)) (Below.refl _ _) (Nat.le_refl _) (by simp) ?_; (case hd => rfl); (case hg => rfl); (case hr => first | (go_simp; done) | (go_simp; rfl)); (case hp => exact (Reps.one (show Kd.FK (Kd.slice 3 (Kd.int .i64)) _ _ l0 [.slice A0 l0.length c0] from (Kd.FK_slice_mk (Kd.V_reads' (Kd.V_mono (ok' := (fun k_ => ((P0_ k_ ∨ P1_ k_) ∨ w.heap.size ≤ k_))) (HO_0.out) (fun k_ hk => hk))).2.1 (Kd.V_F (Kd.V_mono (ok' := (fun k_ => ((P0_ k_ ∨ P1_ k_) ∨ w.heap.size ≤ k_))) (HO_0.out) (fun k_ hk => hk))))) (Reps.none _ _))); intro v114 w35 ho36 hb hg_ hnew_; clear hg_ hnew_; (first | rw [← Ny113.out] at ho36 | (simp only [Int.reduceToNat] at ho36; rw [← Ny113.out] at ho36)); replace HO_0 := Aside0.mk (Kd.V_elder' (tV HO_0.out) (Kd.N_base ho36) hb); have HO115 := Aside0.mk (Kd.N_lower ho36 (below_size tB)); replace HB := Aside0.mk (below_step tB hb); clear hb ho36; obtain ⟨Ao37, co37, eo37⟩ := Kd.N_slice HO115.out; subst eo37) | ((with_reducible refine gate_callee (f := 61) rfl ?_); refine goesL_ (some 72) rfl rfl Tryd.func61 (by kernel_rfl) rfl #[.slice Ao37 y113.length co37] rfl tL ?_; (with_reducible refine (earshotref03_Vectors.calls kj14 _ _ y113 true _ ?side1 ?side2 A30.out).mono ?_); (case side1 => exact tC (Kd.N_reads' HO115.out).2.2); (case side2 => exact (Kd.N_reads' HO115.out).2.1); rintro e w38 ⟨rfl, hb⟩; refine ⟨_, rfl, ?_⟩; replace HO_0 := Aside0.mk (Kd.V_below (tV HO_0.out) hb); replace HO115 := Aside0.mk (Kd.N_below (tN HO115.out) hb); replace HB := Aside0.mk (below_step tB hb); (try clear hb); (try clear hb2); (try clear hk); (try clear hi)) | (go_at_call 34; (with_reducible refine (earshotref03_Book.calls kj14 _ _ l2 true _ ?side1 ?side2 A32.out).mono ?_); (case side1 => exact tC (Kd.C_below HR2.out HB.out)); (case side2 => exact HC2.out); rintro e w39 ⟨rfl, hb⟩; replace HO_0 := Aside0.mk (Kd.V_below (tV HO_0.out) hb); replace HO115 := Aside0.mk (Kd.N_below (tN HO115.out) hb); replace HB := Aside0.mk (below_step tB hb); (try clear hb); (try clear hb2); (try clear hk); (try clear hi); have p118 : 0 ≤ (0 : Int) := (by omega); have q118 : 0 < (l2.length : Int) := of_decide_eq_true tA; obtain ⟨ad118, A118_0, c118_0, e118, hx118_0, hl118_0, hi118_0⟩ := at_L2 HR2.out 0 p118 q118; cases e118; have qi118 : (0 < l2.length) = True := eq_true (by omega); (try rw [show ((0 : Int)).toNat = 0 from rfl] at hx118_0); (try rw [Addr.add_zero'] at hx118_0); replace hx118_0 := (HB.out.cell (World.block_lt_of_cell? w _ hx118_0)).trans hx118_0; have HR118_0 := Aside0.mk hi118_0; have HC118_0 := Aside0.mk hl118_0; clear hi118_0 hl118_0; replace p118 := eq_true p118; replace q118 := eq_true q118))
          go_meet
          case rel => exact ⟨_, (((l0.length : Int) != ((rd_L2 l2 0).length : Int))), (by first | rfl | (simp; done) | (simp only [i64_w]; done) | (simp [*]; done)), H', ⟨by have := HJ3.out; have := HJ14.out; first | omega | exact Nat.le_refl _⟩, ⟨by (with_reducible repeat (first | apply Kd.V_alloc | apply Kd.V_drewN | apply Kd.V_drew)); exact Kd.V_mono HO_0.out (fun _ hk => hk.1)⟩, ⟨tB⟩⟩
         ·rw [if_neg c34] at H
          exact absurd H (by simp)
        ·replace c33 := Bool.eq_false_iff.mpr c33
         subst c33
         have H1 : (earshotlaw03_FeatureNearest.j2 kj14 l0 l2 t110 t111 t112 true) = some r := by rw [if_neg (show ¬ (false = true) by decide)] at H; exact H
         clear H
         have H := H1
         clear H1
         have H' := Aside0.mk H
         clear H
         go_wp2_with (first | ((with_reducible refine gate_dst (N := 71) rfl ?_); (try (refine gate_guard (by rfl) ?_; dsimp only)); refine Kd.N_lit (Kd.slice 3 (Kd.int .i64)) _ 22 ?hg (N' := 71) ?hd (xs := ([l0] : List (List Int))) (inner := [.slice A0 l0.length c0]) (ok := (fun k_ => ((P0_ k_ ∨ P1_ k_) ∨ w.heap.size ≤ k_))) (okp := (fun k_ => ((P0_ k_ ∨ P1_ k_) ∨ w.heap.size ≤ k_))) ?hr ?hp (fun _ hk => hk) ((show ∀ k_, w29.heap.size ≤ k_ → (fun k_ => ((P0_ k_ ∨ P1_ k_) ∨ w.heap.size ≤ k_)) k_ from fun k_ hk => (.inr (Nat.le_trans (below_size tB) hk))) _ (Nat.le_refl _)) (Below.refl _ _) (Nat.le_refl _) (by simp) ?_; (case hd => rfl); (case hg => rfl); (case hr => first | (go_simp; done) | (go_simp; rfl)); (case hp => exact (Reps.one (show Kd.FK (Kd.slice 3 (Kd.int .i64)) _ _ l0 [.slice A0 l0.length c0] from (Kd.FK_slice_mk (Kd.V_reads' (Kd.V_mono (ok' := (fun k_ => ((P0_ k_ ∨ P1_ k_) ∨ w.heap.size ≤ k_))) (HO_0.out) (fun k_ hk => hk))).2.1 (Kd.V_F (Kd.V_mono (ok' := (fun k_ => ((P0_ k_ ∨ P1_ k_) ∨ w.heap.size ≤ k_))) (HO_0.out) (fun k_ hk => hk))))) (Reps.none _ _))); intro v114 w40 ho41 hb hg_ hnew_; clear hg_ hnew_; (first | rw [← Ny113.out] at ho41 | (simp only [Int.reduceToNat] at ho41; rw [← Ny113.out] at ho41)); replace HO_0 := Aside0.mk (Kd.V_elder' (tV HO_0.out) (Kd.N_base ho41) hb); have HO115 := Aside0.mk (Kd.N_lower ho41 (below_size tB)); replace HB := Aside0.mk (below_step tB hb); clear hb ho41; obtain ⟨Ao42, co42, eo42⟩ := Kd.N_slice HO115.out; subst eo42) | ((with_reducible refine gate_callee (f := 61) rfl ?_); refine goesL_ (some 72) rfl rfl Tryd.func61 (by kernel_rfl) rfl #[.slice Ao42 y113.length co42] rfl tL ?_; (with_reducible refine (earshotref03_Vectors.calls kj14 _ _ y113 true _ ?side1 ?side2 A30.out).mono ?_); (case side1 => exact tC (Kd.N_reads' HO115.out).2.2); (case side2 => exact (Kd.N_reads' HO115.out).2.1); rintro e w43 ⟨rfl, hb⟩; refine ⟨_, rfl, ?_⟩; replace HO_0 := Aside0.mk (Kd.V_below (tV HO_0.out) hb); replace HO115 := Aside0.mk (Kd.N_below (tN HO115.out) hb); replace HB := Aside0.mk (below_step tB hb); (try clear hb); (try clear hb2); (try clear hk); (try clear hi)) | (go_at_call 34; (with_reducible refine (earshotref03_Book.calls kj14 _ _ l2 false _ ?side1 ?side2 A32.out).mono ?_); (case side1 => exact tC (Kd.C_below HR2.out HB.out)); (case side2 => exact HC2.out); rintro e w44 ⟨rfl, hb⟩; replace HO_0 := Aside0.mk (Kd.V_below (tV HO_0.out) hb); replace HO115 := Aside0.mk (Kd.N_below (tN HO115.out) hb); replace HB := Aside0.mk (below_step tB hb); (try clear hb); (try clear hb2); (try clear hk); (try clear hi)))
         go_meet
         case rel => exact ⟨_, (true), (by first | rfl | (simp; done) | (simp only [i64_w]; done) | (simp [*]; done)), H', ⟨by have := HJ3.out; have := HJ14.out; first | omega | exact Nat.le_refl _⟩, ⟨by (with_reducible repeat (first | apply Kd.V_alloc | apply Kd.V_drewN | apply Kd.V_drew)); exact Kd.V_mono HO_0.out (fun _ hk => hk.1)⟩, ⟨tB⟩⟩
       ·replace c31 := Bool.eq_false_iff.mpr c31
        subst c31
        have H1 : (earshotlaw03_FeatureNearest.j2 kj14 l0 l2 t110 t111 t112 true) = some r := by rw [if_neg (show ¬ (false = true) by decide)] at H; exact H
        clear H
        have H := H1
        clear H1
        have H' := Aside0.mk H
        clear H
        go_wp2_with (first | ((with_reducible refine gate_dst (N := 71) rfl ?_); (try (refine gate_guard (by rfl) ?_; dsimp only)); refine Kd.N_lit (Kd.slice 3 (Kd.int .i64)) _ 22 ?hg (N' := 71) ?hd (xs := ([l0] : List (List Int))) (inner := [.slice A0 l0.length c0]) (ok := (fun k_ => ((P0_ k_ ∨ P1_ k_) ∨ w.heap.size ≤ k_))) (okp := (fun k_ => ((P0_ k_ ∨ P1_ k_) ∨ w.heap.size ≤ k_))) ?hr ?hp (fun _ hk => hk) ((show ∀ k_, w29.heap.size ≤ k_ → (fun k_ => ((P0_ k_ ∨ P1_ k_) ∨ w.heap.size ≤ k_)) k_ from fun k_ hk => (.inr (Nat.le_trans (below_size tB) hk))) _ (Nat.le_refl _)) (Below.refl _ _) (Nat.le_refl _) (by simp) ?_; (case hd => rfl); (case hg => rfl); (case hr => first | (go_simp; done) | (go_simp; rfl)); (case hp => exact (Reps.one (show Kd.FK (Kd.slice 3 (Kd.int .i64)) _ _ l0 [.slice A0 l0.length c0] from (Kd.FK_slice_mk (Kd.V_reads' (Kd.V_mono (ok' := (fun k_ => ((P0_ k_ ∨ P1_ k_) ∨ w.heap.size ≤ k_))) (HO_0.out) (fun k_ hk => hk))).2.1 (Kd.V_F (Kd.V_mono (ok' := (fun k_ => ((P0_ k_ ∨ P1_ k_) ∨ w.heap.size ≤ k_))) (HO_0.out) (fun k_ hk => hk))))) (Reps.none _ _))); intro v114 w45 ho46 hb hg_ hnew_; clear hg_ hnew_; (first | rw [← Ny113.out] at ho46 | (simp only [Int.reduceToNat] at ho46; rw [← Ny113.out] at ho46)); replace HO_0 := Aside0.mk (Kd.V_elder' (tV HO_0.out) (Kd.N_base ho46) hb); have HO115 := Aside0.mk (Kd.N_lower ho46 (below_size tB)); replace HB := Aside0.mk (below_step tB hb); clear hb ho46; obtain ⟨Ao47, co47, eo47⟩ := Kd.N_slice HO115.out; subst eo47) | ((with_reducible refine gate_callee (f := 61) rfl ?_); refine goesL_ (some 72) rfl rfl Tryd.func61 (by kernel_rfl) rfl #[.slice Ao47 y113.length co47] rfl tL ?_; (with_reducible refine (earshotref03_Vectors.calls kj14 _ _ y113 false _ ?side1 ?side2 A30.out).mono ?_); (case side1 => exact tC (Kd.N_reads' HO115.out).2.2); (case side2 => exact (Kd.N_reads' HO115.out).2.1); rintro e w48 ⟨rfl, hb⟩; refine ⟨_, rfl, ?_⟩; replace HO_0 := Aside0.mk (Kd.V_below (tV HO_0.out) hb); replace HO115 := Aside0.mk (Kd.N_below (tN HO115.out) hb); replace HB := Aside0.mk (below_step tB hb); (try clear hb); (try clear hb2); (try clear hk); (try clear hi)))
        go_meet
        case rel => exact ⟨_, (true), (by first | rfl | (simp; done) | (simp only [i64_w]; done) | (simp [*]; done)), H', ⟨by have := HJ3.out; have := HJ14.out; first | omega | exact Nat.le_refl _⟩, ⟨by (with_reducible repeat (first | apply Kd.V_alloc | apply Kd.V_drewN | apply Kd.V_drew)); exact Kd.V_mono HO_0.out (fun _ hk => hk.1)⟩, ⟨tB⟩⟩
      case rest =>
       clear HC28
       try clear c1
       try clear p1
       try clear q1
       try clear hx1
       try clear qi1
       try clear c2
       try clear p2
       try clear c3
       try clear c5
       try clear c5b0
       try clear c5b1
       try clear c6
       try clear c6b0
       try clear c6b1
       try clear c7
       try clear c8
       try clear c9
       try clear c9b0
       try clear c9b1
       try clear c10
       try clear c11
       try clear p11
       try clear q11
       try clear hx11
       try clear qi11
       try clear c17
       try clear c21
       try clear c22
       try clear c22b0
       try clear c22b1
       try clear c24
       try clear c24b0
       try clear c24b1
       try clear c25
       try clear c25b0
       try clear c25b1
       try clear c26
       try clear c26b0
       try clear c26b1
       try clear c31
       try clear c33
       try clear c34
       try clear c34b0
       try clear c34b1
       try clear hx118_0
       try clear p118
       try clear p2
       try clear q118
       obtain ⟨kq, x87_27, rfl, HA, HJ27, HO_0, HB⟩ := hcut
       cases kq with
       | zero => exact absurd HA.out (by simp [earshotlaw03_FeatureNearest.j2])
       | succ kj27 =>
        have H := HA.out
        clear HA
        simp only [earshotlaw03_FeatureNearest.j2] at H
        by_cases c49 : x87_27 = true
        ·subst c49
         have H1 : (if t112 = 2 then (if t110 = 0 then (if t111 = 0 then ((earshotlaw03_known.f kj27).bind fun t119 => (some t119)) else (some false)) else (some false)) else (some false)) = some r := by rw [if_pos rfl] at H; exact H
         clear H
         have H := H1
         clear H1
         by_cases c50 : t112 = 2
         ·rw [if_pos c50] at H
          have c50b0 : (t112 == 2) = true := beq_iff_eq.mpr c50
          have c50b1 : (t112 != 2) = false := bne_eq_false_iff_eq.mpr c50
          clear c50
          by_cases c51 : t110 = 0
          ·rw [if_pos c51] at H
           have c51b0 : (t110 == 0) = true := beq_iff_eq.mpr c51
           have c51b1 : (t110 != 0) = false := bne_eq_false_iff_eq.mpr c51
           clear c51
           by_cases c52 : t111 = 0
           ·rw [if_pos c52] at H
            have c52b0 : (t111 == 0) = true := beq_iff_eq.mpr c52
            have c52b1 : (t111 != 0) = false := bne_eq_false_iff_eq.mpr c52
            clear c52
            replace H := Option.bind_eq_some_iff.mp H
            obtain ⟨t119, A530, H⟩ := H
            try dsimp only at H
            have A53 := Aside0.mk A530
            clear A530
            obtain rfl := Option.some.inj H
            go_wp2_with (first | (go_at_call 22; (with_reducible refine (earshotlaw03_known.calls kj27  t119 _ ?side1 A53.out).mono ?_); (case side1 => exact tC (Kd.C_below HRT.out HB.out)); rintro e w54 ⟨rfl, hb⟩; replace HO_0 := Aside0.mk (Kd.V_below (tV HO_0.out) hb); replace HB := Aside0.mk (below_step tB hb); (try clear hb); (try clear hb2); (try clear hk); (try clear hi)))
            go_ret
            exact ⟨by first | rfl | (simp [errW_none, errW_some] <;> rfl) | (simp [*, errW_none, errW_some] <;> rfl), tB⟩
           ·rw [if_neg c52] at H
            have c52b0 : (t111 == 0) = false := beq_eq_false_iff_ne.mpr c52
            have c52b1 : (t111 != 0) = true := bne_iff_ne.mpr c52
            obtain rfl := Option.some.inj H
            go_wp2
            go_ret
            exact ⟨by first | rfl | (simp [errW_none, errW_some] <;> rfl) | (simp [*, errW_none, errW_some] <;> rfl), tB⟩
          ·rw [if_neg c51] at H
           have c51b0 : (t110 == 0) = false := beq_eq_false_iff_ne.mpr c51
           have c51b1 : (t110 != 0) = true := bne_iff_ne.mpr c51
           obtain rfl := Option.some.inj H
           go_wp2
           go_ret
           exact ⟨by first | rfl | (simp [errW_none, errW_some] <;> rfl) | (simp [*, errW_none, errW_some] <;> rfl), tB⟩
         ·rw [if_neg c50] at H
          have c50b0 : (t112 == 2) = false := beq_eq_false_iff_ne.mpr c50
          have c50b1 : (t112 != 2) = true := bne_iff_ne.mpr c50
          obtain rfl := Option.some.inj H
          go_wp2
          go_ret
          exact ⟨by first | rfl | (simp [errW_none, errW_some] <;> rfl) | (simp [*, errW_none, errW_some] <;> rfl), tB⟩
        ·replace c49 := Bool.eq_false_iff.mpr c49
         subst c49
         have H1 : ((earshotref03_Nearest.f kj27 l0 l2).bind fun t120 => (if t112 = 0 then (if t110 = t120 then (if 0 ≤ t120 then (if t120 < (l2.length : Int) then ((earshotref03_Distance.f kj27 l0 (rd_L2 l2 t120)).bind fun t122 => (if t111 = t122 then ((earshotlaw03_known.f kj27).bind fun t123 => (some t123)) else (some false))) else (none)) else (none)) else (some false)) else (some false))) = some r := by rw [if_neg (show ¬ (false = true) by decide)] at H; exact H
         clear H
         have H := H1
         clear H1
         replace H := Option.bind_eq_some_iff.mp H
         obtain ⟨t120, A550, H⟩ := H
         try dsimp only at H
         have A55 := Aside0.mk A550
         clear A550
         by_cases c56 : t112 = 0
         ·rw [if_pos c56] at H
          have c56b0 : (t112 == 0) = true := beq_iff_eq.mpr c56
          have c56b1 : (t112 != 0) = false := bne_eq_false_iff_eq.mpr c56
          clear c56
          by_cases c57 : t110 = t120
          ·rw [if_pos c57] at H
           have c57b0 : (t110 == t120) = true := beq_iff_eq.mpr c57
           have c57b1 : (t110 != t120) = false := bne_eq_false_iff_eq.mpr c57
           clear c57
           by_cases c58 : 0 ≤ t120
           ·rw [if_pos c58] at H
            have c58b0 := decide_eq_true c58
            clear c58
            by_cases c59 : t120 < (l2.length : Int)
            ·rw [if_pos c59] at H
             have c59b0 := decide_eq_true c59
             clear c59
             replace H := Option.bind_eq_some_iff.mp H
             obtain ⟨t122, A600, H⟩ := H
             try dsimp only at H
             have A60 := Aside0.mk A600
             clear A600
             by_cases c61 : t111 = t122
             ·rw [if_pos c61] at H
              have c61b0 : (t111 == t122) = true := beq_iff_eq.mpr c61
              have c61b1 : (t111 != t122) = false := bne_eq_false_iff_eq.mpr c61
              clear c61
              replace H := Option.bind_eq_some_iff.mp H
              obtain ⟨t123, A620, H⟩ := H
              try dsimp only at H
              have A62 := Aside0.mk A620
              clear A620
              obtain rfl := Option.some.inj H
              go_wp2_with (first | ((with_reducible refine gate_callee (f := 72) rfl ?_); refine goesL_ (some 103) rfl rfl Tryd.func72 (by kernel_rfl) rfl #[.slice A0 l0.length c0, .slice A2 l2.length c2] rfl tL ?_; (with_reducible refine (earshotref03_Nearest.calls kj27 _ _ l0 _ _ l2 t120 _ ?side1 ?side2 ?side3 ?side4 A55.out).mono ?_); (case side1 => exact tC (Kd.V_reads' HO_0.out).2.2); (case side2 => exact (Kd.V_reads' HO_0.out).2.1); (case side3 => exact tC (Kd.C_below HR2.out HB.out)); (case side4 => exact HC2.out); rintro e w' ⟨rfl, ⟨nd, rfl⟩⟩; refine ⟨_, rfl, ?_⟩; have p121 : 0 ≤ (t120 : Int) := of_decide_eq_true tA; have q121 : t120 < (l2.length : Int) := of_decide_eq_true tA; obtain ⟨ad121, A121_0, c121_0, e121, hx121_0, hl121_0, hi121_0⟩ := at_L2 HR2.out t120 p121 q121; cases e121; replace hx121_0 := (HB.out.cell (World.block_lt_of_cell? w _ hx121_0)).trans hx121_0; have HR121_0 := Aside0.mk hi121_0; have HC121_0 := Aside0.mk hl121_0; clear hi121_0 hl121_0; replace p121 := eq_true p121; replace q121 := eq_true q121) | (go_at_call 70; (with_reducible refine (earshotref03_Distance.calls kj27 _ _ l0 _ _ (rd_L2 l2 t120) t122 _ ?side1 ?side2 ?side3 ?side4 A60.out).mono ?_); (case side1 => exact tC (Kd.V_reads' HO_0.out).2.2); (case side2 => exact (Kd.V_reads' HO_0.out).2.1); (case side3 => exact tC (Kd.C_below HR121_0.out tB)); (case side4 => exact HC121_0.out); rintro e w' ⟨rfl, ⟨nd, rfl⟩⟩) | (go_at_call 22; (with_reducible refine (earshotlaw03_known.calls kj27  t123 _ ?side1 A62.out).mono ?_); (case side1 => exact tC (Kd.C_below HRT.out tB)); rintro e w63 ⟨rfl, hb⟩; replace HO_0 := Aside0.mk (Kd.V_below (tV HO_0.out) hb); replace HB := Aside0.mk (below_step tB hb); (try clear hb); (try clear hb2); (try clear hk); (try clear hi)))
              go_ret
              exact ⟨by first | rfl | (simp [errW_none, errW_some] <;> rfl) | (simp [*, errW_none, errW_some] <;> rfl), tB⟩
             ·rw [if_neg c61] at H
              have c61b0 : (t111 == t122) = false := beq_eq_false_iff_ne.mpr c61
              have c61b1 : (t111 != t122) = true := bne_iff_ne.mpr c61
              obtain rfl := Option.some.inj H
              go_wp2_with (first | ((with_reducible refine gate_callee (f := 72) rfl ?_); refine goesL_ (some 103) rfl rfl Tryd.func72 (by kernel_rfl) rfl #[.slice A0 l0.length c0, .slice A2 l2.length c2] rfl tL ?_; (with_reducible refine (earshotref03_Nearest.calls kj27 _ _ l0 _ _ l2 t120 _ ?side1 ?side2 ?side3 ?side4 A55.out).mono ?_); (case side1 => exact tC (Kd.V_reads' HO_0.out).2.2); (case side2 => exact (Kd.V_reads' HO_0.out).2.1); (case side3 => exact tC (Kd.C_below HR2.out HB.out)); (case side4 => exact HC2.out); rintro e w' ⟨rfl, ⟨nd, rfl⟩⟩; refine ⟨_, rfl, ?_⟩; have p121 : 0 ≤ (t120 : Int) := of_decide_eq_true tA; have q121 : t120 < (l2.length : Int) := of_decide_eq_true tA; obtain ⟨ad121, A121_0, c121_0, e121, hx121_0, hl121_0, hi121_0⟩ := at_L2 HR2.out t120 p121 q121; cases e121; replace hx121_0 := (HB.out.cell (World.block_lt_of_cell? w _ hx121_0)).trans hx121_0; have HR121_0 := Aside0.mk hi121_0; have HC121_0 := Aside0.mk hl121_0; clear hi121_0 hl121_0; replace p121 := eq_true p121; replace q121 := eq_true q121) | (go_at_call 70; (with_reducible refine (earshotref03_Distance.calls kj27 _ _ l0 _ _ (rd_L2 l2 t120) t122 _ ?side1 ?side2 ?side3 ?side4 A60.out).mono ?_); (case side1 => exact tC (Kd.V_reads' HO_0.out).2.2); (case side2 => exact (Kd.V_reads' HO_0.out).2.1); (case side3 => exact tC (Kd.C_below HR121_0.out tB)); (case side4 => exact HC121_0.out); rintro e w' ⟨rfl, ⟨nd, rfl⟩⟩))
              go_ret
              exact ⟨by first | rfl | (simp [errW_none, errW_some] <;> rfl) | (simp [*, errW_none, errW_some] <;> rfl), tB⟩
            ·rw [if_neg c59] at H
             exact absurd H (by simp)
           ·rw [if_neg c58] at H
            exact absurd H (by simp)
          ·rw [if_neg c57] at H
           have c57b0 : (t110 == t120) = false := beq_eq_false_iff_ne.mpr c57
           have c57b1 : (t110 != t120) = true := bne_iff_ne.mpr c57
           obtain rfl := Option.some.inj H
           go_wp2_with (first | ((with_reducible refine gate_callee (f := 72) rfl ?_); refine goesL_ (some 103) rfl rfl Tryd.func72 (by kernel_rfl) rfl #[.slice A0 l0.length c0, .slice A2 l2.length c2] rfl tL ?_; (with_reducible refine (earshotref03_Nearest.calls kj27 _ _ l0 _ _ l2 t120 _ ?side1 ?side2 ?side3 ?side4 A55.out).mono ?_); (case side1 => exact tC (Kd.V_reads' HO_0.out).2.2); (case side2 => exact (Kd.V_reads' HO_0.out).2.1); (case side3 => exact tC (Kd.C_below HR2.out HB.out)); (case side4 => exact HC2.out); rintro e w' ⟨rfl, ⟨nd, rfl⟩⟩; refine ⟨_, rfl, ?_⟩))
           go_ret
           exact ⟨by first | rfl | (simp [errW_none, errW_some] <;> rfl) | (simp [*, errW_none, errW_some] <;> rfl), tB⟩
         ·rw [if_neg c56] at H
          have c56b0 : (t112 == 0) = false := beq_eq_false_iff_ne.mpr c56
          have c56b1 : (t112 != 0) = true := bne_iff_ne.mpr c56
          obtain rfl := Option.some.inj H
          go_wp2_with (first | ((with_reducible refine gate_callee (f := 72) rfl ?_); refine goesL_ (some 103) rfl rfl Tryd.func72 (by kernel_rfl) rfl #[.slice A0 l0.length c0, .slice A2 l2.length c2] rfl tL ?_; (with_reducible refine (earshotref03_Nearest.calls kj27 _ _ l0 _ _ l2 t120 _ ?side1 ?side2 ?side3 ?side4 A55.out).mono ?_); (case side1 => exact tC (Kd.V_reads' HO_0.out).2.2); (case side2 => exact (Kd.V_reads' HO_0.out).2.1); (case side3 => exact tC (Kd.C_below HR2.out HB.out)); (case side4 => exact HC2.out); rintro e w' ⟨rfl, ⟨nd, rfl⟩⟩; refine ⟨_, rfl, ?_⟩))
          go_ret
          exact ⟨by first | rfl | (simp [errW_none, errW_some] <;> rfl) | (simp [*, errW_none, errW_some] <;> rfl), tB⟩

/-! ### earshotref03_Length: function 24 -/
def earshotref03_Length.f (a0 : Int) : Option (Bool) := if a0 = 1 then (some true) else (if a0 = 2 then (some true) else (if a0 = 4 then (some true) else (if a0 = 8 then (some true) else (if a0 = 16 then (some true) else (if a0 = 32 then (some true) else (some (a0 == 64)))))))
set_option maxHeartbeats 8000000 in
set_option maxRecDepth 100000 in
theorem earshotref03_Length.calls (a0 : Int) (r : Bool) (w : World) (h : earshotref03_Length.f a0 = some r) :
  Calls Tryd.prog 24 #[.int .i64 a0] w fun e w' => e = .returned (.bool r) ∧ Drawn0 w w' := by
 have H : (if a0 = 1 then (some true) else (if a0 = 2 then (some true) else (if a0 = 4 then (some true) else (if a0 = 8 then (some true) else (if a0 = 16 then (some true) else (if a0 = 32 then (some true) else (some (a0 == 64)))))))) = some r := h
 clear h
 by_cases c2 : a0 = 1
 ·rw [if_pos c2] at H
  have c2b0 : (a0 == 1) = true := beq_iff_eq.mpr c2
  have c2b1 : (a0 != 1) = false := bne_eq_false_iff_eq.mpr c2
  clear c2
  obtain rfl := Option.some.inj H
  go_enter Tryd.func24, Tryd.ntmps24
  go_wp2
  go_ret
  exact ⟨by first | rfl | (simp; done) | (simp [*]; done), by repeat (first | exact Drawn0.refl _ | apply Drawn0.step)⟩
 ·rw [if_neg c2] at H
  have c2b0 : (a0 == 1) = false := beq_eq_false_iff_ne.mpr c2
  have c2b1 : (a0 != 1) = true := bne_iff_ne.mpr c2
  by_cases c3 : a0 = 2
  ·rw [if_pos c3] at H
   have c3b0 : (a0 == 2) = true := beq_iff_eq.mpr c3
   have c3b1 : (a0 != 2) = false := bne_eq_false_iff_eq.mpr c3
   clear c3
   obtain rfl := Option.some.inj H
   go_enter Tryd.func24, Tryd.ntmps24
   go_wp2
   go_ret
   exact ⟨by first | rfl | (simp; done) | (simp [*]; done), by repeat (first | exact Drawn0.refl _ | apply Drawn0.step)⟩
  ·rw [if_neg c3] at H
   have c3b0 : (a0 == 2) = false := beq_eq_false_iff_ne.mpr c3
   have c3b1 : (a0 != 2) = true := bne_iff_ne.mpr c3
   by_cases c4 : a0 = 4
   ·rw [if_pos c4] at H
    have c4b0 : (a0 == 4) = true := beq_iff_eq.mpr c4
    have c4b1 : (a0 != 4) = false := bne_eq_false_iff_eq.mpr c4
    clear c4
    obtain rfl := Option.some.inj H
    go_enter Tryd.func24, Tryd.ntmps24
    go_wp2
    go_ret
    exact ⟨by first | rfl | (simp; done) | (simp [*]; done), by repeat (first | exact Drawn0.refl _ | apply Drawn0.step)⟩
   ·rw [if_neg c4] at H
    have c4b0 : (a0 == 4) = false := beq_eq_false_iff_ne.mpr c4
    have c4b1 : (a0 != 4) = true := bne_iff_ne.mpr c4
    by_cases c5 : a0 = 8
    ·rw [if_pos c5] at H
     have c5b0 : (a0 == 8) = true := beq_iff_eq.mpr c5
     have c5b1 : (a0 != 8) = false := bne_eq_false_iff_eq.mpr c5
     clear c5
     obtain rfl := Option.some.inj H
     go_enter Tryd.func24, Tryd.ntmps24
     go_wp2
     go_ret
     exact ⟨by first | rfl | (simp; done) | (simp [*]; done), by repeat (first | exact Drawn0.refl _ | apply Drawn0.step)⟩
    ·rw [if_neg c5] at H
     have c5b0 : (a0 == 8) = false := beq_eq_false_iff_ne.mpr c5
     have c5b1 : (a0 != 8) = true := bne_iff_ne.mpr c5
     by_cases c6 : a0 = 16
     ·rw [if_pos c6] at H
      have c6b0 : (a0 == 16) = true := beq_iff_eq.mpr c6
      have c6b1 : (a0 != 16) = false := bne_eq_false_iff_eq.mpr c6
      clear c6
      obtain rfl := Option.some.inj H
      go_enter Tryd.func24, Tryd.ntmps24
      go_wp2
      go_ret
      exact ⟨by first | rfl | (simp; done) | (simp [*]; done), by repeat (first | exact Drawn0.refl _ | apply Drawn0.step)⟩
     ·rw [if_neg c6] at H
      have c6b0 : (a0 == 16) = false := beq_eq_false_iff_ne.mpr c6
      have c6b1 : (a0 != 16) = true := bne_iff_ne.mpr c6
      by_cases c7 : a0 = 32
      ·rw [if_pos c7] at H
       have c7b0 : (a0 == 32) = true := beq_iff_eq.mpr c7
       have c7b1 : (a0 != 32) = false := bne_eq_false_iff_eq.mpr c7
       clear c7
       obtain rfl := Option.some.inj H
       go_enter Tryd.func24, Tryd.ntmps24
       go_wp2
       go_ret
       exact ⟨by first | rfl | (simp; done) | (simp [*]; done), by repeat (first | exact Drawn0.refl _ | apply Drawn0.step)⟩
      ·rw [if_neg c7] at H
       have c7b0 : (a0 == 32) = false := beq_eq_false_iff_ne.mpr c7
       have c7b1 : (a0 != 32) = true := bne_iff_ne.mpr c7
       obtain rfl := Option.some.inj H
       go_enter Tryd.func24, Tryd.ntmps24
       go_wp2
       go_ret
       exact ⟨by first | rfl | (simp; done) | (simp [*]; done), by repeat (first | exact Drawn0.refl _ | apply Drawn0.step)⟩

/-! ### earshotref02_Round: function 83 -/
def earshotref02_Round.f : Nat → Int → Int → Option (Int)
 | 0, _, _ => none
 | k + 1, a0, a1 => if a0 < 0 then ((earshotref02_Round.f k (wrap64 (-a0)) a1).bind fun t101 => (some (wrap64 (-t101)))) else (if (wrap64 (2 * a1)) = 0 then (none) else (some (wrap64 (Int.tdiv (wrap64 ((wrap64 (2 * a0)) + a1)) (wrap64 (2 * a1))))))
theorem earshotref02_Round.mono_l : ∀ k, (∀ y0 y1, LeO (earshotref02_Round.f k y0 y1) (earshotref02_Round.f (k + 1) y0 y1))
 | 0 => fun _ _ r h => by simp [earshotref02_Round.f] at h
 | k + 1 => by
  have ih0 := earshotref02_Round.mono_l k
  ·intro y0 y1
   unfold earshotref02_Round.f
   repeat' first
   | (with_reducible exact ih0 _ _)
   | (with_reducible exact LeO.refl _)
   | (with_reducible exact LeO.none _)
   | (with_reducible refine LeO.ite ?_ ?_)
   | (with_reducible refine LeO.bind ?_ (fun _ => ?_))
   | exact ih0 _ _
   | exact LeO.none _
   | refine LeO.ite ?_ ?_
   | refine LeO.bind ?_ (fun _ => ?_)
theorem earshotref02_Round.mono : ∀ a0 a1 k, LeO (earshotref02_Round.f k a0 a1) (earshotref02_Round.f (k + 1) a0 a1) := by
 intro a0 a1 k
 have ih0 := earshotref02_Round.mono_l k
 exact ih0 a0 a1
set_option maxHeartbeats 8000000 in
set_option maxRecDepth 100000 in
theorem earshotref02_Round.calls (k : Nat) : ∀ (a0 : Int) (a1 : Int) (r : Int) (w : World) (h : earshotref02_Round.f k a0 a1 = some r),
  Calls Tryd.prog 83 #[.int .i64 a0, .int .i64 a1] w fun e w' => e = .returned (.int .i64 r) ∧ Drawn0 w w' := by
 induction k using Nat.strongRecOn with
 | _ k ih =>
 intro a0 a1 r w h
 cases k with
 | zero => exact absurd h (by simp [earshotref02_Round.f])
 | succ k =>
 simp only [earshotref02_Round.f] at h
 have H : (if a0 < 0 then ((earshotref02_Round.f k (wrap64 (-a0)) a1).bind fun t101 => (some (wrap64 (-t101)))) else (if (wrap64 (2 * a1)) = 0 then (none) else (some (wrap64 (Int.tdiv (wrap64 ((wrap64 (2 * a0)) + a1)) (wrap64 (2 * a1))))))) = some r := h
 clear h
 by_cases c3 : a0 < 0
 ·rw [if_pos c3] at H
  have c3b0 := decide_eq_true c3
  clear c3
  replace H := Option.bind_eq_some_iff.mp H
  obtain ⟨t101, A40, H⟩ := H
  try dsimp only at H
  have A4 := Aside0.mk A40
  clear A40
  obtain rfl := Option.some.inj H
  go_enter Tryd.func83, Tryd.ntmps83
  go_wp2_with (first | ((with_reducible refine gate_callee (f := 83) rfl ?_); refine goesL_ (some 10) rfl rfl Tryd.func83 (by kernel_rfl) rfl #[.int .i64 (wrap64 (-a0)), .int .i64 a1] rfl tL ?_; (with_reducible refine (ih k (by omega) (wrap64 (-a0)) a1 t101 _ A4.out).mono ?_); rintro e w' ⟨rfl, ⟨nd, rfl⟩⟩; refine ⟨_, rfl, ?_⟩))
  go_ret
  exact ⟨by first | rfl | (simp; done) | (simp [*]; done), by repeat (first | exact Drawn0.refl _ | apply Drawn0.step)⟩
 ·rw [if_neg c3] at H
  have c3b0 := decide_eq_false c3
  clear c3
  by_cases c5 : (wrap64 (2 * a1)) = 0
  ·rw [if_pos c5] at H
   exact absurd H (by simp)
  ·rw [if_neg c5] at H
   have c5b0 : ((wrap64 (2 * a1)) == 0) = false := beq_eq_false_iff_ne.mpr c5
   have c5b1 : ((wrap64 (2 * a1)) != 0) = true := bne_iff_ne.mpr c5
   obtain rfl := Option.some.inj H
   go_enter Tryd.func83, Tryd.ntmps83
   go_wp2
   go_ret
   exact ⟨by first | rfl | (simp; done) | (simp [*]; done), by repeat (first | exact Drawn0.refl _ | apply Drawn0.step)⟩

end Go.Proofs.YtdlbmbijobcljaaDoor.X

namespace Go.Proofs.YtdlbmbijobcljaaDoor.Pure
open Go.RowKit Go.Proofs.YtdlbmbijobcljaaDoor.X Go.Proofs.YtdlbmbijobcljaaDoorW.PrintWords Go.Proofs.YtdlbmbijobcljaaDoorW.PrintLast
set_option linter.unusedVariables false
set_option linter.unusedSimpArgs false
theorem w64 {n : Int} (h0 : -9223372036854775808 ≤ n) (h1 : n ≤ 9223372036854775807) : wrap64 n = n := by unfold wrap64; omega
/-- The nearest integer of x/d, halves away from zero. -/
def rnd (x d : Int) : Int := if x < 0 then -((2 * (-x) + d) / (2 * d)) else (2 * x + d) / (2 * d)
theorem rnd_abs_le (x d b : Int) (hd : 0 < d) (h0 : -(b * d) ≤ x) (h1 : x ≤ b * d) : -b ≤ rnd x d ∧ rnd x d ≤ b := by
  have key : ∀ y : Int, 0 ≤ y → y ≤ b * d → 0 ≤ (2 * y + d) / (2 * d) ∧ (2 * y + d) / (2 * d) ≤ b := by
    intro y hy hyb
    refine ⟨Int.ediv_nonneg (by omega) (by omega), ?_⟩
    have : (2 * y + d) / (2 * d) < b + 1 := by
      apply Int.ediv_lt_of_lt_mul (by omega)
      have : (b + 1) * (2 * d) = 2 * (b * d) + 2 * d := by rw [Int.add_mul, Int.mul_left_comm]; omega
      omega
    omega
  unfold rnd
  split
  · have := key (-x) (by omega) (by omega)
    omega
  · have := key x (by omega) (by omega)
    omega
theorem round_pos (x d : Int) (hx : 0 ≤ x) (hx1 : x ≤ 4611686018427387903) (hd : 0 < d) (hd1 : d ≤ 1099511627776) (hs : 2 * x + d ≤ 9223372036854775807) (k : Nat) : earshotref02_Round.f (k + 1) x d = some ((2 * x + d) / (2 * d)) := by
  unfold earshotref02_Round.f
  rw [if_neg (by omega), w64 (n := 2 * d) (by omega) (by omega), if_neg (by omega), w64 (n := 2 * x) (by omega) (by omega), w64 (n := 2 * x + d) (by omega) (by omega), Int.tdiv_eq_ediv_of_nonneg (by omega)]
  have h0 : 0 ≤ (2 * x + d) / (2 * d) := Int.ediv_nonneg (by omega) (by omega)
  have h1 : (2 * x + d) / (2 * d) ≤ 2 * x + d := Int.ediv_le_self _ (by omega)
  rw [w64 (by omega) (by omega)]
theorem round_ev (x d : Int) (hx0 : -4611686018427387903 ≤ x) (hx1 : x ≤ 4611686018427387903) (hd : 0 < d) (hd1 : d ≤ 1099511627776) (hs0 : -(2 * x) + d ≤ 9223372036854775807) (hs : 2 * x + d ≤ 9223372036854775807) : Ev (fun k => earshotref02_Round.f k x d) (rnd x d) := by
  refine ⟨2, fun k hk => ?_⟩
  obtain ⟨m, rfl⟩ : ∃ m, k = m + 2 := ⟨k - 2, by omega⟩
  by_cases h : x < 0
  · have h2 : 0 ≤ (2 * (-x) + d) / (2 * d) := Int.ediv_nonneg (by omega) (by omega)
    have h3 : (2 * (-x) + d) / (2 * d) ≤ 2 * (-x) + d := Int.ediv_le_self _ (by omega)
    show earshotref02_Round.f (m + 1 + 1) x d = _
    rw [earshotref02_Round.f, if_pos h, w64 (by omega) (by omega), round_pos (-x) d (by omega) (by omega) hd hd1 (by omega), Option.bind_some, w64 (by omega) (by omega)]
    unfold rnd
    rw [if_pos h]
  · show earshotref02_Round.f (m + 1 + 1) x d = _
    rw [round_pos x d (by omega) hx1 hd hd1 hs]
    unfold rnd
    rw [if_neg h]
theorem far_pos (x d : Int) (hx : 0 ≤ x) (hx1 : x ≤ 4611686018427387903) (hd : 0 < d) (hd1 : d ≤ 1099511627776) (k : Nat) : feature_far.f (k + 1) x d = some ((2 * x + d) / (2 * d)) := by
  rw [feature_far.f, if_neg (by omega), if_neg (by omega), Int.tdiv_eq_ediv_of_nonneg hx, Int.tmod_eq_emod_of_nonneg hx]
  have h0 := Int.emod_nonneg x (by omega : d ≠ 0)
  have h1 := Int.emod_lt_of_pos x hd
  have h2 := Int.mul_ediv_add_emod x d
  have h3 : 0 ≤ x / d := Int.ediv_nonneg hx (by omega)
  have h4 : x / d ≤ x := Int.ediv_le_self _ hx
  rw [w64 (n := d - x % d) (by omega) (by omega)]
  have e : 2 * x + d = (2 * (x % d) + d) + (x / d) * (2 * d) := by
    have : (x / d) * (2 * d) = 2 * (d * (x / d)) := by rw [Int.mul_left_comm, Int.mul_comm (x / d) d]
    omega
  have e2 : (2 * x + d) / (2 * d) = (2 * (x % d) + d) / (2 * d) + x / d := by rw [e, Int.add_mul_ediv_right _ _ (by omega : 2 * d ≠ 0)]
  by_cases hc : x % d ≥ d - x % d
  · rw [if_pos hc, w64 (n := x / d) (by omega) (by omega), w64 (n := x / d + 1) (by omega) (by omega), e2]
    have : (2 * (x % d) + d) / (2 * d) = 1 := by
      have a1 : 1 ≤ (2 * (x % d) + d) / (2 * d) := by rw [Int.le_ediv_iff_mul_le (by omega)]; omega
      have a2 : (2 * (x % d) + d) / (2 * d) < 2 := Int.ediv_lt_of_lt_mul (by omega) (by omega)
      omega
    rw [this, Int.add_comm]
  · rw [if_neg hc, w64 (n := x / d) (by omega) (by omega), e2, (Int.ediv_eq_zero_of_lt (by omega) (by omega) : (2 * (x % d) + d) / (2 * d) = 0), Int.zero_add]
theorem far_ev (x d : Int) (hx0 : -4611686018427387903 ≤ x) (hx1 : x ≤ 4611686018427387903) (hd : 0 < d) (hd1 : d ≤ 1099511627776) : Ev (fun k => feature_far.f k x d) (rnd x d) := by
  refine ⟨2, fun k hk => ?_⟩
  obtain ⟨m, rfl⟩ : ∃ m, k = m + 2 := ⟨k - 2, by omega⟩
  by_cases h : x < 0
  · have h2 : 0 ≤ (2 * (-x) + d) / (2 * d) := Int.ediv_nonneg (by omega) (by omega)
    have h3 : (2 * (-x) + d) / (2 * d) ≤ (-x) := by
      have : (2 * (-x) + d) / (2 * d) < (-x) + 1 := by
        apply Int.ediv_lt_of_lt_mul (by omega)
        have e : (-x + 1) * (2 * d) = 2 * ((-x) * d) + 2 * d := by rw [Int.add_mul, Int.mul_left_comm]; omega
        have : (-x) * 1 ≤ (-x) * d := Int.mul_le_mul_of_nonneg_left (by omega) (by omega)
        omega
      omega
    show feature_far.f (m + 1 + 1) x d = _
    rw [feature_far.f, if_pos h, w64 (by omega) (by omega), far_pos (-x) d (by omega) (by omega) hd hd1, Option.bind_some, w64 (by omega) (by omega)]
    unfold rnd
    rw [if_pos h]
  · show feature_far.f (m + 1 + 1) x d = _
    rw [far_pos x d (by omega) hx1 hd hd1]
    unfold rnd
    rw [if_neg h]
/-- Is it a length of a transform? -/
def isLen (n : Nat) : Bool := n == 1 || n == 2 || n == 4 || n == 8 || n == 16 || n == 32 || n == 64
theorem possible_small : ∀ n : Nat, n < 200 → feature_possible.f (n : Int) = some (isLen n) := by decide +kernel
theorem length_small : ∀ n : Nat, n < 200 → earshotref03_Length.f (n : Int) = some (isLen n) := by decide +kernel
theorem possible_at (n : Nat) : feature_possible.f (n : Int) = some (isLen n) := by
  by_cases h : n < 200
  · exact possible_small n h
  · unfold feature_possible.f
    rw [if_pos (by omega), if_neg (by omega)]
    have : isLen n = false := by simp only [isLen, Bool.or_eq_false_iff, beq_eq_false_iff_ne]; omega
    rw [this]
theorem length_at (n : Nat) : earshotref03_Length.f (n : Int) = some (isLen n) := by
  by_cases h : n < 200
  · exact length_small n h
  · unfold earshotref03_Length.f
    rw [if_neg (by omega), if_neg (by omega), if_neg (by omega), if_neg (by omega), if_neg (by omega), if_neg (by omega)]
    have : isLen n = false := by simp only [isLen, Bool.or_eq_false_iff, beq_eq_false_iff_ne]; omega
    have e : ((n : Int) == 64) = false := by simp only [beq_eq_false_iff_ne]; omega
    rw [this, e]
theorem isLen_dvd (n : Nat) (h : isLen n = true) : 0 < n ∧ n ≤ 64 ∧ (n : Int) * ((64 : Int) / n) = 64 ∧ 1 ≤ (64 : Int) / n ∧ (64 : Int) / n ≤ 64 := by
  simp only [isLen, Bool.or_eq_true, beq_iff_eq] at h
  rcases h with ((((((h | h) | h) | h) | h) | h) | h) <;> subst h <;> decide
/-- All within bounds. -/
def allIn (l : List Int) (a b : Int) : Bool := l.all fun x => decide (a ≤ x) && decide (x ≤ b)
theorem rd_nat (l : List Int) (j : Nat) : rd l (j : Int) = l.getD j 0 := by unfold rd; rw [Int.toNat_natCast]
theorem all_ev (l : List Int) (a b : Int) (hl : l.length ≤ 4611686018427387904) : Ev (fun k => earshotref02_All.f k l a b) (allIn l a b) := by
  have key : ∀ r j : Nat, j + r = l.length → Ev (fun k => earshotref02_All.l0 k l a b (j : Int)) (allIn (l.drop j) a b) := by
    intro r
    induction r with
    | zero =>
      intro j hj
      refine ⟨1, fun k hk => ?_⟩
      obtain ⟨m, rfl⟩ : ∃ m, k = m + 1 := ⟨k - 1, by omega⟩
      simp only [earshotref02_All.l0]
      rw [if_neg (by omega), List.drop_of_length_le (by omega)]
      rfl
    | succ r ih =>
      intro j hj
      have hjl : j < l.length := by omega
      have e : l.drop j = l[j] :: l.drop (j + 1) := List.drop_eq_getElem_cons hjl
      have er : rd l (j : Int) = l[j] := by rw [rd_nat, List.getD_eq_getElem?_getD, List.getElem?_eq_getElem hjl]; rfl
      obtain ⟨K, hK⟩ := ih (j + 1) (by omega)
      refine ⟨K + 1, fun k hk => ?_⟩
      obtain ⟨m, rfl⟩ : ∃ m, k = m + 1 := ⟨k - 1, by omega⟩
      simp only [earshotref02_All.l0]
      rw [if_pos (by omega), if_pos (by omega), er, e]
      by_cases h1 : l[j] < a
      · rw [if_pos h1]
        simp only [allIn, List.all_cons, (by simpa using h1 : decide (a ≤ l[j]) = false), Bool.false_and]
      · rw [if_neg h1]
        by_cases h2 : l[j] > b
        · rw [if_pos h2]
          simp only [allIn, List.all_cons, (by simpa using h2 : decide (l[j] ≤ b) = false), Bool.and_false, Bool.false_and]
        · rw [if_neg h2, w64 (by omega) (by omega)]
          have : earshotref02_All.l0 m l a b ((j + 1 : Nat) : Int) = some (allIn (l.drop (j + 1)) a b) := hK m (by omega)
          rw [show (j : Int) + 1 = ((j + 1 : Nat) : Int) by omega, this]
          simp only [allIn, List.all_cons, (by simp; omega : decide (a ≤ l[j]) = true), (by simp; omega : decide (l[j] ≤ b) = true), Bool.true_and]
  exact key l.length 0 (by omega)
theorem within_at (l : List Int) (b : Int) (h0 : 0 ≤ b) (h1 : b ≤ 9223372036854775807) : feature_within.f l b = some (allIn l (-b) b) := by
  unfold feature_within.f allIn
  congr 1
  rw [List.not_any_eq_all_not]
  congr 1
  funext x
  unfold beyond
  rw [w64 (by omega) (by omega)]
  by_cases h1 : x < -b <;> by_cases h2 : b < x <;> simp [h1, h2] <;> omega
theorem same_ev (l m : List Int) (hlm : l = m) (hl : l.length ≤ 4611686018427387904) : Ev (fun k => earshotref02_Same.f k l m) true := by
  subst hlm
  have key : ∀ r j : Nat, j + r = l.length → Ev (fun k => earshotref02_Same.l0 k l l (j : Int)) true := by
    intro r
    induction r with
    | zero =>
      intro j hj
      refine ⟨1, fun k hk => ?_⟩
      obtain ⟨m, rfl⟩ : ∃ m, k = m + 1 := ⟨k - 1, by omega⟩
      simp only [earshotref02_Same.l0]
      rw [if_neg (by omega)]
    | succ r ih =>
      intro j hj
      obtain ⟨K, hK⟩ := ih (j + 1) (by omega)
      refine ⟨K + 1, fun k hk => ?_⟩
      obtain ⟨m, rfl⟩ : ∃ m, k = m + 1 := ⟨k - 1, by omega⟩
      simp only [earshotref02_Same.l0]
      rw [if_pos (by omega), if_pos (by omega), if_pos (by omega), if_pos trivial, w64 (by omega) (by omega), show (j : Int) + 1 = ((j + 1 : Nat) : Int) by omega]
      exact hK m (by omega)
  refine Ev.congr (fun k => ?_) (key l.length 0 (by omega))
  unfold earshotref02_Same.f
  rw [if_pos rfl]
  rfl
theorem cosv_range (j : Int) : -16384 ≤ cosv j ∧ cosv j ≤ 16384 := by
  unfold cosv
  have a := tab_range (j % 256); have b := tab_range (128 - j % 256); have c := tab_range (j % 256 - 128); have d := tab_range (256 - j % 256)
  split
  · omega
  · split
    · omega
    · split <;> omega
end Go.Proofs.YtdlbmbijobcljaaDoor.Pure

namespace Go.Proofs.YtdlbmbijobcljaaDoor.X
open Go.RowKit Go.Proofs.YtdlbmbijobcljaaDoorW.PrintWords Go.Proofs.YtdlbmbijobcljaaDoorW.PrintLast Go.Proofs.YtdlbmbijobcljaaDoorW.PrintMore
attribute [local go_sem] max2_int min2_int max_two min_two max_three min_three max_four min_four   -- for this text's walks alone
set_option linter.unusedVariables false
set_option linter.unusedSimpArgs false
/-! ### earshotref03_Wrong: function 58 -/
def earshotref03_Wrong.f (k : Nat) (l0 : List (List Int)) : Option (Int) := if (l0.length : Int) > 10000 then (some 5) else ((earshotref03_Vectors.f k l0).bind fun t101 => (if t101 = true then (some 0) else (some 2)))
theorem earshotref03_Wrong.mono : ∀ a0 k, LeO (earshotref03_Wrong.f k a0) (earshotref03_Wrong.f (k + 1) a0) := by
 intro a0 k
 unfold earshotref03_Wrong.f
 repeat' first
   | (with_reducible exact earshotref03_Vectors.mono _ _)
   | (with_reducible exact LeO.refl _)
   | (with_reducible exact LeO.none _)
   | (with_reducible refine LeO.ite ?_ ?_)
   | (with_reducible refine LeO.bind ?_ (fun _ => ?_))
   | exact earshotref03_Vectors.mono _ _
   | exact LeO.none _
   | refine LeO.ite ?_ ?_
   | refine LeO.bind ?_ (fun _ => ?_)
set_option maxHeartbeats 8000000 in
set_option maxRecDepth 100000 in
theorem earshotref03_Wrong.calls (k : Nat) (A0 : Option Addr) (c0 : Nat) (l0 : List (List Int)) (r : Int) (w : World) (hr0 : Kd.C (Kd.slice 3 (Kd.int .i64)) w A0 l0.length l0) (hc0 : l0.length ≤ c0) (h : earshotref03_Wrong.f k l0 = some r) :
  Calls Tryd.prog 58 #[.slice A0 l0.length c0] w fun e w' => e = .returned (.int .i64 r) ∧ Below w.heap.size w w' := by
 have HR0 := Aside0.mk hr0
 have HC0 := Aside0.mk hc0
 clear hr0 hc0
 have HB := Aside0.mk (Below.refl w.heap.size w)
 have H : (if (l0.length : Int) > 10000 then (some 5) else ((earshotref03_Vectors.f k l0).bind fun t101 => (if t101 = true then (some 0) else (some 2)))) = some r := h
 clear h
 by_cases c2 : (l0.length : Int) > 10000
 ·rw [if_pos c2] at H
  have c2b0 : decide (10000 < (l0.length : Int)) = true := decide_eq_true c2
  have c2b1 : decide (10000 < l0.length) = true := decide_eq_true (by omega)
  clear c2
  obtain rfl := Option.some.inj H
  go_enter Tryd.func58, Tryd.ntmps58
  go_wp2
  go_ret
  exact ⟨by first | rfl | (simp [errW_none, errW_some] <;> rfl) | (simp [*, errW_none, errW_some] <;> rfl), tB⟩
 ·rw [if_neg c2] at H
  have c2b0 : decide (10000 < (l0.length : Int)) = false := decide_eq_false c2
  have c2b1 : decide (10000 < l0.length) = false := decide_eq_false (by omega)
  clear c2
  replace H := Option.bind_eq_some_iff.mp H
  obtain ⟨t101, A30, H⟩ := H
  try dsimp only at H
  have A3 := Aside0.mk A30
  clear A30
  by_cases c4 : t101 = true
  ·subst c4
   have H1 : (some 0) = some r := by rw [if_pos rfl] at H; exact H
   clear H
   have H := H1
   clear H1
   obtain rfl := Option.some.inj H
   go_enter Tryd.func58, Tryd.ntmps58
   go_wp2_with (first | ((with_reducible refine gate_callee (f := 61) rfl ?_); refine goesL_ (some 7) rfl rfl Tryd.func61 (by kernel_rfl) rfl #[.slice A0 l0.length c0] rfl tL ?_; (with_reducible refine (earshotref03_Vectors.calls k _ _ l0 true _ ?side1 ?side2 A3.out).mono ?_); (case side1 => exact tC HR0.out); (case side2 => exact HC0.out); rintro e w5 ⟨rfl, hb⟩; refine ⟨_, rfl, ?_⟩; replace HB := Aside0.mk (below_step tB hb); (try clear hb); (try clear hb2); (try clear hk); (try clear hi)))
   go_ret
   exact ⟨by first | rfl | (simp [errW_none, errW_some] <;> rfl) | (simp [*, errW_none, errW_some] <;> rfl), tB⟩
  ·replace c4 := Bool.eq_false_iff.mpr c4
   subst c4
   have H1 : (some 2) = some r := by rw [if_neg (show ¬ (false = true) by decide)] at H; exact H
   clear H
   have H := H1
   clear H1
   obtain rfl := Option.some.inj H
   go_enter Tryd.func58, Tryd.ntmps58
   go_wp2_with (first | ((with_reducible refine gate_callee (f := 61) rfl ?_); refine goesL_ (some 7) rfl rfl Tryd.func61 (by kernel_rfl) rfl #[.slice A0 l0.length c0] rfl tL ?_; (with_reducible refine (earshotref03_Vectors.calls k _ _ l0 false _ ?side1 ?side2 A3.out).mono ?_); (case side1 => exact tC HR0.out); (case side2 => exact HC0.out); rintro e w6 ⟨rfl, hb⟩; refine ⟨_, rfl, ?_⟩; replace HB := Aside0.mk (below_step tB hb); (try clear hb); (try clear hb2); (try clear hk); (try clear hi)))
   go_ret
   exact ⟨by first | rfl | (simp [errW_none, errW_some] <;> rfl) | (simp [*, errW_none, errW_some] <;> rfl), tB⟩

end Go.Proofs.YtdlbmbijobcljaaDoor.X

namespace Go.Proofs.YtdlbmbijobcljaaDoor.Pure
open Go.RowKit Go.Proofs.YtdlbmbijobcljaaDoor.X Go.Proofs.YtdlbmbijobcljaaDoorW.PrintWords Go.Proofs.YtdlbmbijobcljaaDoorW.PrintLast Go.Proofs.YtdlbmbijobcljaaDoorW.PrintMore
set_option linter.unusedVariables false
set_option linter.unusedSimpArgs false
/-- A loop that counts up: from its end back to any index. -/
theorem up {α : Type} (G : Nat → Nat → Option α) (R : Nat → α) (n : Nat) (hend : Ev (G n) (R n)) (hstep : ∀ j, j < n → Ev (G (j + 1)) (R (j + 1)) → Ev (G j) (R j)) : ∀ j, j ≤ n → Ev (G j) (R j) := by
  have key : ∀ d j, j + d = n → Ev (G j) (R j) := by
    intro d
    induction d with
    | zero => intro j h; rw [show j = n by omega]; exact hend
    | succ d ih => intro j h; exact hstep j (by omega) (ih (j + 1) (by omega))
  intro j hj
  exact key (n - j) j (by omega)
theorem rd2_nat (v : List (List Int)) (j : Nat) : rd_L2 v (j : Int) = v.getD j [] := by unfold rd_L2; rw [Int.toNat_natCast]
theorem rd2_zero (v : List (List Int)) : rd_L2 v 0 = v.getD 0 [] := rfl
theorem rd2_lt (v : List (List Int)) (j : Nat) (h : j < v.length) : rd_L2 v (j : Int) = v[j] := by rw [rd2_nat, List.getD_eq_getElem?_getD, List.getElem?_eq_getElem h]; rfl
theorem drop_cons {α : Type} (v : List α) (j : Nat) (h : j < v.length) : v.drop j = v[j] :: v.drop (j + 1) := List.drop_eq_getElem_cons h
/-- One vector of c components. -/
def vecOne (c : Nat) (x : List Int) : Bool := x.length == c && decide (1 ≤ x.length) && decide (x.length ≤ 64) && allIn x (-1048576) 1048576
def vecsOK (v : List (List Int)) : Bool := v.all (vecOne (v.getD 0 []).length)
def errB (b : Bool) : Int := cond b 0 2
/-- The error of a list of vectors. -/
def wrongOf (v : List (List Int)) : Int := if v.length > 10000 then 5 else errB (vecsOK v)
theorem vectors_ev (v : List (List Int)) (hv : v.length ≤ 9223372036854775807) : Ev (fun k => feature_vectors.f k v) (wrongOf v) := by
  unfold wrongOf
  by_cases h0 : v.length > 10000
  · rw [if_pos h0]
    refine Ev.congr (fun k => ?_) (Ev.now _)
    unfold feature_vectors.f
    rw [if_pos (by omega)]
  · rw [if_neg h0]
    have h1 := up (fun j k => feature_vectors.l0 k v v (v.length : Int) (j : Int)) (fun j => errB ((v.drop j).all (vecOne (v.getD 0 []).length))) v.length (by
        refine Ev.step (f := fun _ => some 0) (fun k => ?_) (by rw [List.drop_length]; exact Ev.now _)
        simp only [feature_vectors.l0]
        rw [if_neg (by omega)]) (by
        rintro j hj ⟨K, ih⟩
        refine ⟨K + 1, fun k hk => ?_⟩
        obtain ⟨m, rfl⟩ : ∃ m, k = m + 1 := ⟨k - 1, by omega⟩
        have ih := ih m (by omega)
        simp only [feature_vectors.l0]
        rw [if_pos (by omega), if_pos (by omega), if_pos (by omega), if_pos (by omega), rd2_lt v j hj, rd2_zero, within_at _ _ (by omega) (by omega), w64 (n := (j : Int) + 1) (by omega) (by omega), drop_cons v j hj]
        simp only [List.all_cons, vecOne, Option.bind_some]
        by_cases a1 : v[j].length = (v.getD 0 []).length
        · rw [if_pos (by omega)]
          by_cases a2 : v[j].length < 1
          · rw [if_pos (by omega), (decide_eq_false (by omega) : decide (1 ≤ v[j].length) = false)]; simp [errB]
          · rw [if_neg (by omega)]
            by_cases a3 : v[j].length > 64
            · rw [if_pos (by omega), (decide_eq_false (by omega) : decide (v[j].length ≤ 64) = false)]; simp [errB]
            · rw [if_neg (by omega)]
              cases a4 : allIn v[j] (-1048576) 1048576 with
              | false => simp [errB]
              | true =>
                rw [if_pos rfl]
                refine Eq.trans ih ?_
                have b1 : (v[j].length == (v.getD 0 []).length) = true := by simpa using a1
                have b2 : decide (1 ≤ v[j].length) = true := decide_eq_true (by omega)
                have b3 : decide (v[j].length ≤ 64) = true := decide_eq_true (by omega)
                rw [b1, b2, b3]
                simp only [Bool.true_and]
        · rw [if_neg (by omega)]
          have b1 : (v[j].length == (v.getD 0 []).length) = false := by simpa using a1
          rw [b1]
          simp [errB]) 0 (by omega)
    refine Ev.congr (fun k => ?_) h1
    unfold feature_vectors.f
    rw [if_neg (by omega)]
    rfl
theorem Vectors_ev (v : List (List Int)) (hv : v.length ≤ 9223372036854775807) : Ev (fun k => earshotref03_Vectors.f k v) (vecsOK v) := by
  have h1 := up (fun j k => earshotref03_Vectors.l0 k v (j : Int)) (fun j => (v.drop j).all (vecOne (v.getD 0 []).length)) v.length (by
        refine Ev.step (f := fun _ => some true) (fun k => ?_) (by rw [List.drop_length]; exact Ev.now _)
        simp only [earshotref03_Vectors.l0]
        rw [if_neg (by omega)]) (by
        rintro j hj ⟨K, ih⟩
        rw [drop_cons v j hj]
        simp only [List.all_cons, vecOne]
        by_cases a2 : v[j].length < 1
        · refine ⟨1, fun k hk => ?_⟩
          obtain ⟨m, rfl⟩ : ∃ m, k = m + 1 := ⟨k - 1, by omega⟩
          simp only [earshotref03_Vectors.l0]
          rw [rd2_lt v j hj, if_pos (by omega), if_pos (by omega), if_pos (by omega)]
          rw [(decide_eq_false (by omega) : decide (1 ≤ v[j].length) = false)]
          simp
        · by_cases a3 : v[j].length > 64
          · refine ⟨1, fun k hk => ?_⟩
            obtain ⟨m, rfl⟩ : ∃ m, k = m + 1 := ⟨k - 1, by omega⟩
            simp only [earshotref03_Vectors.l0]
            rw [rd2_lt v j hj, if_pos (by omega), if_pos (by omega), if_neg (by omega), if_pos (by omega)]
            rw [(decide_eq_false (by omega) : decide (v[j].length ≤ 64) = false)]
            simp
          · obtain ⟨K2, ha⟩ := all_ev v[j] (-1048576) 1048576 (by omega)
            refine ⟨K + K2 + 1, fun k hk => ?_⟩
            obtain ⟨m, rfl⟩ : ∃ m, k = m + 1 := ⟨k - 1, by omega⟩
            have ih := ih m (by omega)
            have ha := ha m (by omega)
            dsimp only at ha
            simp only [earshotref03_Vectors.l0]
            rw [rd2_lt v j hj, rd2_zero, if_pos (by omega), if_pos (by omega), if_neg (by omega), if_neg (by omega), if_pos (by omega), ha, w64 (n := (j : Int) + 1) (by omega) (by omega)]
            simp only [Option.bind_some]
            by_cases a1 : v[j].length = (v.getD 0 []).length
            · rw [if_pos (by omega)]
              cases a4 : allIn v[j] (-1048576) 1048576 with
              | false => simp
              | true =>
                rw [if_pos rfl]
                refine Eq.trans ih ?_
                have b1 : (v[j].length == (v.getD 0 []).length) = true := by simpa using a1
                have b2 : decide (1 ≤ v[j].length) = true := decide_eq_true (by omega)
                have b3 : decide (v[j].length ≤ 64) = true := decide_eq_true (by omega)
                rw [b1, b2, b3]
                simp only [Bool.true_and]
            · rw [if_neg (by omega)]
              have b1 : (v[j].length == (v.getD 0 []).length) = false := by simpa using a1
              rw [b1]
              simp) 0 (by omega)
  exact h1
theorem Wrong_ev (v : List (List Int)) (hv : v.length ≤ 9223372036854775807) : Ev (fun k => earshotref03_Wrong.f k v) (wrongOf v) := by
  unfold wrongOf
  by_cases h0 : v.length > 10000
  · rw [if_pos h0]
    refine Ev.congr (fun k => ?_) (Ev.now _)
    unfold earshotref03_Wrong.f
    rw [if_pos (by omega)]
  · rw [if_neg h0]
    obtain ⟨K, h1⟩ := Vectors_ev v hv
    refine ⟨K, fun k hk => ?_⟩
    have h1 := h1 k hk
    dsimp only at h1 ⊢
    unfold earshotref03_Wrong.f
    rw [if_neg (by omega), h1, Option.bind_some]
    cases vecsOK v <;> rfl
/-- Few vectors, or too many. -/
def fewOf (v : List (List Int)) (m : Nat) : Bool := (v.take (m + 1)).all (fun x => decide (x.length ≤ 70)) && (decide (v.length ≤ m) || (decide (v.length > 10000) && decide (v.length < 20000)))
theorem few_ev (v : List (List Int)) (m : Nat) (hm : m ≤ 100) (hv : v.length ≤ 9223372036854775807) : Ev (fun k => earshotlaw03_few.f k v (m : Int)) (fewOf v m) := by
  have stop : ∀ j : Int, Ev (fun k => earshotlaw03_few.j1 k v (m : Int) j false) (decide (v.length ≤ m) || (decide (v.length > 10000) && decide (v.length < 20000))) := by
    intro j
    refine Ev.step (f := fun k => some (decide (v.length ≤ m) || (decide (v.length > 10000) && decide (v.length < 20000)))) (fun k => ?_) (Ev.now _)
    simp only [earshotlaw03_few.j1]
    rw [if_neg (by simp)]
    by_cases a1 : v.length ≤ m
    · rw [if_pos (by omega), decide_eq_true a1]; rfl
    · rw [if_neg (by omega), decide_eq_false a1]
      by_cases a2 : v.length > 10000
      · rw [if_pos (by omega), decide_eq_true a2]
        simp only [Bool.false_or, Bool.true_and]
        congr 2
        exact propext ⟨fun h => by omega, fun h => by omega⟩
      · rw [if_neg (by omega), decide_eq_false a2]; rfl
  have h1 := up (fun j k => earshotlaw03_few.l0 k v (m : Int) (j : Int)) (fun j => ((v.take (m + 1)).drop j).all (fun x => decide (x.length ≤ 70)) && (decide (v.length ≤ m) || (decide (v.length > 10000) && decide (v.length < 20000)))) (v.take (m + 1)).length (by
        rw [List.drop_length]
        simp only [List.all_nil, Bool.true_and]
        rw [List.length_take]
        refine Ev.step (fun k => ?_) (stop ((min (m + 1) v.length : Nat) : Int))
        simp only [earshotlaw03_few.l0]
        by_cases a1 : v.length ≤ m + 1
        · rw [if_neg (by omega)]
        · rw [if_pos (by omega), decide_eq_false (by omega)]) (by
        rintro j hj ⟨K, ih⟩
        have hj2 := hj
        rw [List.length_take] at hj2
        rw [drop_cons _ j hj, List.all_cons]
        have e : (v.take (m + 1))[j] = v[j]'(by omega) := by rw [List.getElem_take]
        rw [e]
        refine ⟨K + 2, fun k hk => ?_⟩
        obtain ⟨q, rfl⟩ : ∃ q, k = q + 1 + 1 := ⟨k - 2, by omega⟩
        have ih := ih q (by omega)
        simp only [earshotlaw03_few.l0]
        rw [if_pos (by omega), decide_eq_true (by omega)]
        simp only [earshotlaw03_few.j1]
        rw [if_pos trivial, if_pos (by omega), if_pos (by omega), rd2_lt v j (by omega), w64 (n := (j : Int) + 1) (by omega) (by omega)]
        by_cases a1 : v[j].length > 70
        · rw [if_pos (by omega), decide_eq_false (by omega)]; simp
        · rw [if_neg (by omega), decide_eq_true (by omega)]
          refine Eq.trans ih ?_
          simp only [Bool.true_and]) 0 (by omega)
  exact h1
theorem same_dec (l m : List Int) (hl : l.length ≤ 4611686018427387904) : Ev (fun k => earshotref02_Same.f k l m) (decide (l = m)) := by
  by_cases hlen : l.length = m.length
  · have h1 := up (fun j k => earshotref02_Same.l0 k l m (j : Int)) (fun j => decide (l.drop j = m.drop j)) l.length (by
        refine Ev.step (f := fun _ => some true) (fun k => ?_) (by rw [List.drop_length, hlen, List.drop_length]; simpa using Ev.now true)
        simp only [earshotref02_Same.l0]
        rw [if_neg (by omega)]) (by
        rintro j hj ⟨K, ih⟩
        refine ⟨K + 1, fun k hk => ?_⟩
        obtain ⟨q, rfl⟩ : ∃ q, k = q + 1 := ⟨k - 1, by omega⟩
        have ih := ih q (by omega)
        simp only [earshotref02_Same.l0]
        have hjm : j < m.length := by omega
        rw [if_pos (by omega), if_pos (by omega), if_pos (by omega), w64 (n := (j : Int) + 1) (by omega) (by omega), drop_cons l j hj, drop_cons m j hjm, rd_nat, rd_nat, List.getD_eq_getElem?_getD, List.getElem?_eq_getElem hj, List.getD_eq_getElem?_getD, List.getElem?_eq_getElem hjm]
        simp only [Option.getD_some]
        by_cases e : l[j] = m[j]
        · rw [if_pos e]
          refine Eq.trans ih ?_
          rw [e]
          simp only [List.cons.injEq, true_and]
        · rw [if_neg e]
          simp only [List.cons.injEq, e, false_and, decide_false]) 0 (by omega)
    refine Ev.congr (fun k => ?_) h1
    unfold earshotref02_Same.f
    rw [if_pos (by omega)]
    rfl
  · rw [decide_eq_false (by rintro rfl; exact hlen rfl)]
    refine Ev.congr (fun k => ?_) (Ev.now _)
    unfold earshotref02_Same.f
    rw [if_neg (by omega)]
theorem sameLists_dec (l m : List (List Int)) (hl : l.length ≤ 4611686018427387904) (hr : ∀ x ∈ l, x.length ≤ 4611686018427387904) : Ev (fun k => earshotref02_SameLists.f k l m) (decide (l = m)) := by
  by_cases hlen : l.length = m.length
  · have h1 := up (fun j k => earshotref02_SameLists.l0 k l m (j : Int)) (fun j => decide (l.drop j = m.drop j)) l.length (by
        refine Ev.step (f := fun _ => some true) (fun k => ?_) (by rw [List.drop_length, hlen, List.drop_length]; simpa using Ev.now true)
        simp only [earshotref02_SameLists.l0]
        rw [if_neg (by omega)]) (by
        rintro j hj ⟨K, ih⟩
        have hjm : j < m.length := by omega
        obtain ⟨K2, hs⟩ := same_dec l[j] m[j] (hr _ (List.getElem_mem hj))
        refine ⟨K + K2 + 1, fun k hk => ?_⟩
        obtain ⟨q, rfl⟩ : ∃ q, k = q + 1 := ⟨k - 1, by omega⟩
        have ih := ih q (by omega)
        have hs := hs q (by omega)
        dsimp only at hs
        simp only [earshotref02_SameLists.l0]
        rw [if_pos (by omega), if_pos (by omega), if_pos (by omega), w64 (n := (j : Int) + 1) (by omega) (by omega), drop_cons l j hj, drop_cons m j hjm, rd2_lt l j hj, rd2_lt m j hjm, hs, Option.bind_some]
        by_cases e : l[j] = m[j]
        · rw [if_pos (by simpa using e)]
          refine Eq.trans ih ?_
          rw [e]
          simp only [List.cons.injEq, true_and]
        · rw [if_neg (by simpa using e)]
          simp only [List.cons.injEq, e, false_and, decide_false]) 0 (by omega)
    refine Ev.congr (fun k => ?_) h1
    unfold earshotref02_SameLists.f
    rw [if_pos (by omega)]
    rfl
  · rw [decide_eq_false (by rintro rfl; exact hlen rfl)]
    refine Ev.congr (fun k => ?_) (Ev.now _)
    unfold earshotref02_SameLists.f
    rw [if_neg (by omega)]
end Go.Proofs.YtdlbmbijobcljaaDoor.Pure

namespace Go.Proofs.YtdlbmbijobcljaaDoor.X
open Go.RowKit Go.Proofs.YtdlbmbijobcljaaDoorW.PrintWords Go.Proofs.YtdlbmbijobcljaaDoorW.PrintLast Go.Proofs.YtdlbmbijobcljaaDoorW.PrintMore
attribute [local go_sem] max2_int min2_int max_two min_two max_three min_three max_four min_four   -- for this text's walks alone
set_option linter.unusedVariables false
set_option linter.unusedSimpArgs false
/-! ### earshotref03_Inverse: function 27 -/
mutual
def earshotref03_Inverse.l0 : Nat → List Int → Int → List Int → Int → Option (List Int)
 | 0, _, _, _, _ => none
 | k + 1, x0, x3, x4, x5 => if x5 < x3 then (if 0 < (x0.length : Int) then (earshotref03_Inverse.l1 k x0 x3 x4 x5 (wrap64 (16384 * (rd x0 0))) 1) else (none)) else (some x4)
def earshotref03_Inverse.l1 : Nat → List Int → Int → List Int → Int → Int → Int → Option (List Int)
 | 0, _, _, _, _, _, _ => none
 | k + 1, x0, x3, x4, x5, x6, x7 => if x7 < x3 then (if 0 ≤ x7 then (if x7 < (x0.length : Int) then (if x3 = 0 then (none) else ((earshotref03_C.f (wrap64 ((wrap64 ((wrap64 ((wrap64 (2 * x5)) + 1)) * x7)) * (wrap64 ((64 : Int) / x3))))).bind fun t106 => (earshotref03_Inverse.l1 k x0 x3 x4 x5 (wrap64 (x6 + (wrap64 ((wrap64 (2 * (rd x0 x7))) * t106)))) (wrap64 (x7 + 1))))) else (none)) else (none)) else ((earshotref02_Round.f k x6 (wrap64 (x3 * 268435456))).bind fun t107 => (if 0 ≤ x5 then (if x5 < (x4.length : Int) then (earshotref03_Inverse.l0 k x0 x3 (x4.set (x5 : Int).toNat t107) (wrap64 (x5 + 1))) else (none)) else (none)))
end
def earshotref03_Inverse.f (k : Nat) (l0 : List Int) : Option (List Int) := if 0 ≤ (l0.length : Int) then (if ((l0.length : Int) : Int).toNat ≤ 35184372088832 then (earshotref03_Inverse.l0 k l0 (l0.length : Int) (List.replicate ((l0.length : Int) : Int).toNat 0) 0) else (none)) else (none)
theorem earshotref03_Inverse.mono_l : ∀ k, (∀ y0 y1 y2 y3, LeO (earshotref03_Inverse.l0 k y0 y1 y2 y3) (earshotref03_Inverse.l0 (k + 1) y0 y1 y2 y3)) ∧ (∀ y0 y1 y2 y3 y4 y5, LeO (earshotref03_Inverse.l1 k y0 y1 y2 y3 y4 y5) (earshotref03_Inverse.l1 (k + 1) y0 y1 y2 y3 y4 y5))
 | 0 => ⟨fun _ _ _ _ r h => by simp [earshotref03_Inverse.l0] at h, fun _ _ _ _ _ _ r h => by simp [earshotref03_Inverse.l1] at h⟩
 | k + 1 => by
  obtain ⟨ih0, ih1⟩ := earshotref03_Inverse.mono_l k
  refine ⟨?_, ?_⟩
  ·intro y0 y1 y2 y3
   unfold earshotref03_Inverse.l0
   repeat' first
   | (with_reducible exact ih0 _ _ _ _)
   | (with_reducible exact ih1 _ _ _ _ _ _)
   | (with_reducible exact earshotref02_Round.mono _ _ _)
   | (with_reducible exact LeO.refl _)
   | (with_reducible exact LeO.none _)
   | (with_reducible refine LeO.ite ?_ ?_)
   | (with_reducible refine LeO.bind ?_ (fun _ => ?_))
   | exact ih0 _ _ _ _
   | exact ih1 _ _ _ _ _ _
   | exact earshotref02_Round.mono _ _ _
   | exact LeO.none _
   | refine LeO.ite ?_ ?_
   | refine LeO.bind ?_ (fun _ => ?_)
  ·intro y0 y1 y2 y3 y4 y5
   unfold earshotref03_Inverse.l1
   repeat' first
   | (with_reducible exact ih0 _ _ _ _)
   | (with_reducible exact ih1 _ _ _ _ _ _)
   | (with_reducible exact earshotref02_Round.mono _ _ _)
   | (with_reducible exact LeO.refl _)
   | (with_reducible exact LeO.none _)
   | (with_reducible refine LeO.ite ?_ ?_)
   | (with_reducible refine LeO.bind ?_ (fun _ => ?_))
   | exact ih0 _ _ _ _
   | exact ih1 _ _ _ _ _ _
   | exact earshotref02_Round.mono _ _ _
   | exact LeO.none _
   | refine LeO.ite ?_ ?_
   | refine LeO.bind ?_ (fun _ => ?_)
theorem earshotref03_Inverse.mono : ∀ a0 k, LeO (earshotref03_Inverse.f k a0) (earshotref03_Inverse.f (k + 1) a0) := by
 intro a0 k
 obtain ⟨ih0, ih1⟩ := earshotref03_Inverse.mono_l k
 unfold earshotref03_Inverse.f
 repeat' first
   | (with_reducible exact ih0 _ _ _ _)
   | (with_reducible exact ih1 _ _ _ _ _ _)
   | (with_reducible exact earshotref02_Round.mono _ _ _)
   | (with_reducible exact LeO.refl _)
   | (with_reducible exact LeO.none _)
   | (with_reducible refine LeO.ite ?_ ?_)
   | (with_reducible refine LeO.bind ?_ (fun _ => ?_))
   | exact ih0 _ _ _ _
   | exact ih1 _ _ _ _ _ _
   | exact earshotref02_Round.mono _ _ _
   | exact LeO.none _
   | refine LeO.ite ?_ ?_
   | refine LeO.bind ?_ (fun _ => ?_)
set_option maxHeartbeats 8000000 in
set_option maxRecDepth 100000 in
theorem earshotref03_Inverse.calls (k : Nat) (A0 : Option Addr) (c0 : Nat) (l0 : List Int) (r : List Int) (w : World) (ht : Kd.C (Kd.int .i64) w (some ⟨0, 0, none⟩) 65 tabL) (hr0 : Kd.C (Kd.int .i64) w A0 l0.length l0) (hc0 : l0.length ≤ c0) (h : earshotref03_Inverse.f k l0 = some r) :
  Calls Tryd.prog 27 #[.slice A0 l0.length c0] w fun e w' => ∃ v0_ : Value, e = .returned (v0_) ∧ Kd.R (Kd.int .i64) 3 w' w.heap.size (fun _ => True) v0_ r ∧ Below w.heap.size w w' := by
 have HRT := Aside0.mk ht
 clear ht
 have HR0 := Aside0.mk hr0
 have HC0 := Aside0.mk hc0
 clear hr0 hc0
 have HB := Aside0.mk (Below.refl w.heap.size w)
 have H : (if 0 ≤ (l0.length : Int) then (if ((l0.length : Int) : Int).toNat ≤ 35184372088832 then (earshotref03_Inverse.l0 k l0 (l0.length : Int) (List.replicate ((l0.length : Int) : Int).toNat 0) 0) else (none)) else (none)) = some r := h
 clear h
 by_cases c2 : 0 ≤ (l0.length : Int)
 ·rw [if_pos c2] at H
  have c2b0 := eq_true c2
  have c2b1 := decide_eq_true c2
  clear c2
  by_cases c3 : ((l0.length : Int) : Int).toNat ≤ 35184372088832
  ·rw [if_pos c3] at H
   have c3b0 := eq_true c3
   have c3b1 := decide_eq_true c3
   clear c3
   obtain ⟨y101, hy101⟩ : ∃ y_ : List Int, y_ = (List.replicate ((l0.length : Int) : Int).toNat 0) := ⟨_, rfl⟩
   replace H : (earshotref03_Inverse.l0 k l0 (l0.length : Int) y101 0) = some r := by first | (rw [hy101]; with_reducible exact H) | (have H2_ := (Option.bind_some _ _).symm.trans H; rw [hy101]; with_reducible exact H2_) | (have H2_ := (Option.bind_some _ _).symm.trans H; with_reducible exact H2_) | with_reducible exact H | (rw [hy101]; exact H) | exact H
   have Ny101 := Aside0.mk hy101
   clear hy101
   have H' := Aside0.mk H
   clear H
   go_enter Tryd.func27, Tryd.ntmps27
   go_wp2_with (first | ((with_reducible refine gate_dst (N := 11) rfl ?_); refine Kd.R_make (Kd.int .i64) _ 3 rfl (N := 11) rfl 22 _ _ rfl (l0.length : Int) rfl rfl Tryd.underlying22 (.int .i64 0) 8 info3 rfl (by decide) (by omega) 0 (ok := fun _ => True) (okp := fun _ => True) rfl (fun _ hk => hk) trivial (of_decide_eq_true tA) (Nat.le_trans (Nat.mul_le_mul_right _ (of_decide_eq_true tA : (l0.length : Int).toNat ≤ 35184372088832)) (by omega)) (Below.refl _ _) (Nat.le_refl _) ?_; intro v102 w4 ho5 hb hg_ hnew_; clear hg_ hnew_; (first | rw [← Ny101.out] at ho5 | (simp only [Int.reduceToNat] at ho5; rw [← Ny101.out] at ho5)); have HO103 := Aside0.mk (Kd.R_lower ho5 (below_size tB)); replace HB := Aside0.mk (below_step tB hb); clear hb ho5))
   repeat (go_quiet (first | ((with_reducible refine gate_dst (N := 11) rfl ?_); refine Kd.R_make (Kd.int .i64) _ 3 rfl (N := 11) rfl 22 _ _ rfl (l0.length : Int) rfl rfl Tryd.underlying22 (.int .i64 0) 8 info3 rfl (by decide) (by omega) 0 (ok := fun _ => True) (okp := fun _ => True) rfl (fun _ hk => hk) trivial (of_decide_eq_true tA) (Nat.le_trans (Nat.mul_le_mul_right _ (of_decide_eq_true tA : (l0.length : Int).toNat ≤ 35184372088832)) (by omega)) (Below.refl _ _) (Nat.le_refl _) ?_; intro v102 w4 ho5 hb hg_ hnew_; clear hg_ hnew_; (first | rw [← Ny101.out] at ho5 | (simp only [Int.reduceToNat] at ho5; rw [← Ny101.out] at ho5)); have HO103 := Aside0.mk (Kd.R_lower ho5 (below_size tB)); replace HB := Aside0.mk (below_step tB hb); clear hb ho5)); try go_wp2_with (first | ((with_reducible refine gate_dst (N := 11) rfl ?_); refine Kd.R_make (Kd.int .i64) _ 3 rfl (N := 11) rfl 22 _ _ rfl (l0.length : Int) rfl rfl Tryd.underlying22 (.int .i64 0) 8 info3 rfl (by decide) (by omega) 0 (ok := fun _ => True) (okp := fun _ => True) rfl (fun _ hk => hk) trivial (of_decide_eq_true tA) (Nat.le_trans (Nat.mul_le_mul_right _ (of_decide_eq_true tA : (l0.length : Int).toNat ≤ 35184372088832)) (by omega)) (Below.refl _ _) (Nat.le_refl _) ?_; intro v102 w4 ho5 hb hg_ hnew_; clear hg_ hnew_; (first | rw [← Ny101.out] at ho5 | (simp only [Int.reduceToNat] at ho5; rw [← Ny101.out] at ho5)); have HO103 := Aside0.mk (Kd.R_lower ho5 (below_size tB)); replace HB := Aside0.mk (below_step tB hb); clear hb ho5)))
   go_loopg [5] k (fun kq v5 w' => ∃ (x4_1 : List Int) (x5_1 : Int), v5 = .int .i64 x5_1 ∧ Aside0 (earshotref03_Inverse.l0 kq l0 (l0.length : Int) x4_1 x5_1 = some r) ∧ Aside0 (kq ≤ k) ∧ Aside0 (Kd.R (Kd.int .i64) 3 w' w.heap.size (fun _ => True) v102 x4_1) ∧ Aside0 (Below w.heap.size w w'))
   case atStart => exact ⟨(y101), (0), (by first | rfl | (simp; done) | (simp only [i64_w]; done) | (simp [*]; done)), H', ⟨Nat.le_refl _⟩, ⟨tR HO103.out⟩, ⟨tB⟩⟩
   case round =>
    clear H'
    try clear c2
    try clear c2b0
    try clear c2b1
    try clear p2
    try clear c3
    try clear c3b0
    try clear c3b1
    obtain ⟨x4_1, x5_1, rfl, HA, HK1, HO_4, HB⟩ := hrel
    cases gk with
    | zero => exact absurd HA.out (by simp [earshotref03_Inverse.l0])
    | succ k1 =>
     have H := HA.out
     clear HA
     simp only [earshotref03_Inverse.l0] at H
     by_cases c6 : x5_1 < (l0.length : Int)
     ·rw [if_pos c6] at H
      have c6b0 := decide_eq_true c6
      clear c6
      by_cases c7 : 0 < (l0.length : Int)
      ·rw [if_pos c7] at H
       have c7b0 := decide_eq_true c7
       have c7b1 : decide (0 < l0.length) = true := decide_eq_true (by omega)
       clear c7
       have H' := Aside0.mk H
       clear H
       have p104 : 0 ≤ (0 : Int) := (by omega)
       have q104 : 0 < (l0.length : Int) := of_decide_eq_true tA
       obtain ⟨ad104, e104, hx104_0⟩ := Kd.at_int HR0.out 0 p104 q104
       cases e104
       have qi104 : (0 < l0.length) = True := eq_true (by omega)
       (try rw [show ((0 : Int)).toNat = 0 from rfl] at hx104_0)
       (try rw [Addr.add_zero'] at hx104_0)
       replace hx104_0 := (HB.out.cell (World.block_lt_of_cell? w _ hx104_0)).trans hx104_0
       replace p104 := eq_true p104
       replace q104 := eq_true q104
       go_wp2
       repeat (go_quiet (fail); try go_wp2)
       go_loopg [6, 7] k1 (fun kq v6 v7 w' => ∃ (x6_2 : Int) (x7_2 : Int), v6 = .int .i64 x6_2 ∧ v7 = .int .i64 x7_2 ∧ Aside0 (earshotref03_Inverse.l1 kq l0 (l0.length : Int) x4_1 x5_1 x6_2 x7_2 = some r) ∧ Aside0 (kq ≤ k1) ∧ Aside0 (Kd.R (Kd.int .i64) 3 w' w.heap.size (fun _ => True) v102 x4_1) ∧ Aside0 (Below w.heap.size w w'))
       case atStart => exact ⟨(wrap64 (16384 * (rd l0 0))), (1), (by first | rfl | (simp; done) | (simp only [i64_w]; done) | (simp [*]; done)), (by first | rfl | (simp; done) | (simp only [i64_w]; done) | (simp [*]; done)), H', ⟨Nat.le_refl _⟩, ⟨tR HO_4.out⟩, ⟨tB⟩⟩
       case round =>
        clear H'
        try clear p1
        try clear q1
        try clear hx1
        try clear qi1
        try clear c2
        try clear c2b0
        try clear c2b1
        try clear p2
        try clear c3
        try clear c3b0
        try clear c3b1
        try clear c6
        try clear c6b0
        try clear p6
        try clear c7
        try clear c7b0
        try clear c7b1
        try clear hx104_0
        try clear p104
        try clear p2
        try clear q104
        obtain ⟨x6_2, x7_2, rfl, rfl, HA, HK2, HO_4, HB⟩ := hrel
        cases gk with
        | zero => exact absurd HA.out (by simp [earshotref03_Inverse.l1])
        | succ k2 =>
         have H := HA.out
         clear HA
         simp only [earshotref03_Inverse.l1] at H
         by_cases c8 : x7_2 < (l0.length : Int)
         ·rw [if_pos c8] at H
          have c8b0 := decide_eq_true c8
          clear c8
          by_cases c9 : 0 ≤ x7_2
          ·rw [if_pos c9] at H
           have c9b0 := decide_eq_true c9
           clear c9
           by_cases c10 : x7_2 < (l0.length : Int)
           ·rw [if_pos c10] at H
            have c10b0 := decide_eq_true c10
            clear c10
            by_cases c11 : (l0.length : Int) = 0
            ·rw [if_pos c11] at H
             exact absurd H (by simp)
            ·rw [if_neg c11] at H
             have c11b0 : ((l0.length : Int) == 0) = false := beq_eq_false_iff_ne.mpr c11
             have c11b1 : ((l0.length : Int) != 0) = true := bne_iff_ne.mpr c11
             have c11b2 : ¬ (l0 = []) := fun h_ => c11 (by rw [h_]; rfl)
             replace H := Option.bind_eq_some_iff.mp H
             obtain ⟨t106, A120, H⟩ := H
             try dsimp only at H
             have A12 := Aside0.mk A120
             clear A120
             have A12z := Aside0.mk (by have z := A12.out; rw [wrap_quo64 _ c11] at z; exact z)
             clear A12
             have A12 := A12z
             clear A12z
             have H' := Aside0.mk H
             clear H
             have p105 : 0 ≤ (x7_2 : Int) := of_decide_eq_true tA
             have q105 : x7_2 < (l0.length : Int) := of_decide_eq_true tA
             obtain ⟨ad105, e105, hx105_0⟩ := Kd.at_int HR0.out x7_2 p105 q105
             obtain rfl : ad104 = ad105 := (by injection e105)
             replace hx105_0 := (HB.out.cell (World.block_lt_of_cell? w _ hx105_0)).trans hx105_0
             replace p105 := eq_true p105
             replace q105 := eq_true q105
             go_wp2_with (first | (go_at_call 48; (with_reducible refine (earshotref03_C.calls (wrap64 ((wrap64 ((wrap64 ((wrap64 (2 * x5_1)) + 1)) * x7_2)) * ((64 : Int) / (l0.length : Int)))) t106 _ ?side1 A12.out).mono ?_); (case side1 => exact tC (Kd.C_below HRT.out HB.out)); rintro e w' ⟨rfl, ⟨nd, rfl⟩⟩; (try first | exact ⟨rfl, _, World.drewN_drewN _ _ _⟩ | exact ⟨rfl, _, Eq.trans (World.drewN_drewN _ _ _) (congrArg (World.drewN _) (Nat.add_assoc _ _ _))⟩)))
             repeat (go_quiet (first | (go_at_call 48; (with_reducible refine (earshotref03_C.calls (wrap64 ((wrap64 ((wrap64 ((wrap64 (2 * x5_1)) + 1)) * x7_2)) * ((64 : Int) / (l0.length : Int)))) t106 _ ?side1 A12.out).mono ?_); (case side1 => exact tC (Kd.C_below HRT.out HB.out)); rintro e w' ⟨rfl, ⟨nd, rfl⟩⟩; (try first | exact ⟨rfl, _, World.drewN_drewN _ _ _⟩ | exact ⟨rfl, _, Eq.trans (World.drewN_drewN _ _ _) (congrArg (World.drewN _) (Nat.add_assoc _ _ _))⟩))); try go_wp2_with (first | (go_at_call 48; (with_reducible refine (earshotref03_C.calls (wrap64 ((wrap64 ((wrap64 ((wrap64 (2 * x5_1)) + 1)) * x7_2)) * ((64 : Int) / (l0.length : Int)))) t106 _ ?side1 A12.out).mono ?_); (case side1 => exact tC (Kd.C_below HRT.out HB.out)); rintro e w' ⟨rfl, ⟨nd, rfl⟩⟩; (try first | exact ⟨rfl, _, World.drewN_drewN _ _ _⟩ | exact ⟨rfl, _, Eq.trans (World.drewN_drewN _ _ _) (congrArg (World.drewN _) (Nat.add_assoc _ _ _))⟩))))
             go_roundg k2
             case measure => have := HK1.out; have := HK2.out; omega
             case rel => exact ⟨(wrap64 (x6_2 + (wrap64 ((wrap64 (2 * (rd l0 x7_2))) * t106)))), (wrap64 (x7_2 + 1)), (by first | rfl | (simp; done) | (simp only [i64_w]; done) | (simp [*]; done)), (by first | rfl | (simp; done) | (simp only [i64_w]; done) | (simp [*]; done)), H', ⟨by have := HK1.out; have := HK2.out; omega⟩, ⟨tR HO_4.out⟩, ⟨tB⟩⟩
           ·rw [if_neg c10] at H
            exact absurd H (by simp)
          ·rw [if_neg c9] at H
           exact absurd H (by simp)
         ·rw [if_neg c8] at H
          have c8b0 := decide_eq_false c8
          clear c8
          replace H := Option.bind_eq_some_iff.mp H
          obtain ⟨t107, A130, H⟩ := H
          try dsimp only at H
          have A13 := Aside0.mk A130
          clear A130
          by_cases c14 : 0 ≤ x5_1
          ·rw [if_pos c14] at H
           have c14b0 := decide_eq_true c14
           clear c14
           by_cases c15 : x5_1 < (x4_1.length : Int)
           ·rw [if_pos c15] at H
            have c15b0 := decide_eq_true c15
            clear c15
            obtain ⟨y108, hy108⟩ : ∃ y_ : List Int, y_ = (x4_1.set (x5_1 : Int).toNat t107) := ⟨_, rfl⟩
            replace H : (earshotref03_Inverse.l0 k2 l0 (l0.length : Int) y108 (wrap64 (x5_1 + 1))) = some r := by first | (rw [hy108]; with_reducible exact H) | (have H2_ := (Option.bind_some _ _).symm.trans H; rw [hy108]; with_reducible exact H2_) | (have H2_ := (Option.bind_some _ _).symm.trans H; with_reducible exact H2_) | with_reducible exact H | (rw [hy108]; exact H) | exact H
            have Ny108 := Aside0.mk hy108
            clear hy108
            have H' := Aside0.mk H
            clear H
            go_wp2_with (first | (go_at_call 83; (with_reducible refine (earshotref02_Round.calls k2 x6_2 (wrap64 ((l0.length : Int) * 268435456)) t107 _ A13.out).mono ?_); rintro e w' ⟨rfl, ⟨nd, rfl⟩⟩; (try first | exact ⟨rfl, _, World.drewN_drewN _ _ _⟩ | exact ⟨rfl, _, Eq.trans (World.drewN_drewN _ _ _) (congrArg (World.drewN _) (Nat.add_assoc _ _ _))⟩); have p16 : 0 ≤ (x5_1 : Int) := of_decide_eq_true tA; have q16 : (x5_1 : Int) < ((x4_1.length : Int) : Int) := of_decide_eq_true tA; obtain ⟨go16, co16, eo16, gb16, gl16, cl16, HG16⟩ := Kd.R_form HO_4.out (by omega); (first | cases eo16 | (injection eo16 with ea_ en_ ec_; (first | subst ea_ | (injection ea_ with ea_; subst ea_)); subst ec_; clear en_)); have GB16 := Aside0.mk gb16; have GG16 := Aside0.mk HG16; clear gb16 gl16 HG16; obtain ⟨hx16_0, hf16_0⟩ := Kd.R_celln 0 HO_4.out (x5_1 : Int) p16 q16; replace p16 := eq_true p16; replace q16 := eq_true q16; obtain ⟨hy17_, hz17_⟩ := Kd.R_celln 0 HO_4.out (x5_1 : Int) (of_decide_eq_true tA) (of_decide_eq_true tA); have HP17 := Kd.R_putg HO_4.out (x5_1 : Int) t107) | ((with_reducible refine gate_store (t := 3) (p := 49) rfl ?_); (try (rw [drewN_self wr]; generalize hq_ : World.drewN wr _ = wr; (try have hx16_0 := cell_at hq_ hx16_0); (try have hf16_0 := frozen_at hq_ hf16_0); have n0_ := Aside0.mk (Kd.R_at hq_ HO_4.out); have n1_ := Aside0.mk (below_at hq_ HB.out); clear hq_ HO_4 HB; have HO_4 := n0_; have HB := n1_; clear n0_ n1_; (try (obtain ⟨hy17_, hz17_⟩ := Kd.R_celln 0 HO_4.out (x5_1 : Int) (of_decide_eq_true tA) (of_decide_eq_true tA))); (try (have HP17 := Kd.R_putg HO_4.out (x5_1 : Int) t107)))); refine store_event (t := 3) (p := 49) (v := ?vo_w18) (w1 := (wr.setCell ⟨go16, (x5_1 : Int).toNat, none⟩ (.int .i64 t107))) ?hg ?ho ?hn ?hr ?_; (case ho => rfl); (case hg => rfl); (case hn => rfl); (case hr => first | (go_simp; done) | (go_simp; rfl)); intro w18 hw; have hg : wr.grownBy w18 (some go16) := (by rw [hw]; exact HP17.2); have hp_ : Kd.R (Kd.int .i64) 3 w18 w.heap.size (fun _ => True) (.slice (some ⟨go16, 0, none⟩) x4_1.length co16) y108 := (by rw [hw, Ny108.out]; exact HP17.1); clear HP17; replace HO_4 := Aside0.mk (hp_); replace HB := Aside0.mk ((by rw [hw]; exact below_set (HB.out) GB16.out : Below w.heap.size w w18)); clear hg hw hp_))
            repeat (go_quiet (first | (go_at_call 83; (with_reducible refine (earshotref02_Round.calls k2 x6_2 (wrap64 ((l0.length : Int) * 268435456)) t107 _ A13.out).mono ?_); rintro e w' ⟨rfl, ⟨nd, rfl⟩⟩; (try first | exact ⟨rfl, _, World.drewN_drewN _ _ _⟩ | exact ⟨rfl, _, Eq.trans (World.drewN_drewN _ _ _) (congrArg (World.drewN _) (Nat.add_assoc _ _ _))⟩); have p16 : 0 ≤ (x5_1 : Int) := of_decide_eq_true tA; have q16 : (x5_1 : Int) < ((x4_1.length : Int) : Int) := of_decide_eq_true tA; obtain ⟨go16, co16, eo16, gb16, gl16, cl16, HG16⟩ := Kd.R_form HO_4.out (by omega); (first | cases eo16 | (injection eo16 with ea_ en_ ec_; (first | subst ea_ | (injection ea_ with ea_; subst ea_)); subst ec_; clear en_)); have GB16 := Aside0.mk gb16; have GG16 := Aside0.mk HG16; clear gb16 gl16 HG16; obtain ⟨hx16_0, hf16_0⟩ := Kd.R_celln 0 HO_4.out (x5_1 : Int) p16 q16; replace p16 := eq_true p16; replace q16 := eq_true q16; obtain ⟨hy17_, hz17_⟩ := Kd.R_celln 0 HO_4.out (x5_1 : Int) (of_decide_eq_true tA) (of_decide_eq_true tA); have HP17 := Kd.R_putg HO_4.out (x5_1 : Int) t107) | ((with_reducible refine gate_store (t := 3) (p := 49) rfl ?_); (try (rw [drewN_self wr]; generalize hq_ : World.drewN wr _ = wr; (try have hx16_0 := cell_at hq_ hx16_0); (try have hf16_0 := frozen_at hq_ hf16_0); have n0_ := Aside0.mk (Kd.R_at hq_ HO_4.out); have n1_ := Aside0.mk (below_at hq_ HB.out); clear hq_ HO_4 HB; have HO_4 := n0_; have HB := n1_; clear n0_ n1_; (try (obtain ⟨hy17_, hz17_⟩ := Kd.R_celln 0 HO_4.out (x5_1 : Int) (of_decide_eq_true tA) (of_decide_eq_true tA))); (try (have HP17 := Kd.R_putg HO_4.out (x5_1 : Int) t107)))); refine store_event (t := 3) (p := 49) (v := ?vo_w18) (w1 := (wr.setCell ⟨go16, (x5_1 : Int).toNat, none⟩ (.int .i64 t107))) ?hg ?ho ?hn ?hr ?_; (case ho => rfl); (case hg => rfl); (case hn => rfl); (case hr => first | (go_simp; done) | (go_simp; rfl)); intro w18 hw; have hg : wr.grownBy w18 (some go16) := (by rw [hw]; exact HP17.2); have hp_ : Kd.R (Kd.int .i64) 3 w18 w.heap.size (fun _ => True) (.slice (some ⟨go16, 0, none⟩) x4_1.length co16) y108 := (by rw [hw, Ny108.out]; exact HP17.1); clear HP17; replace HO_4 := Aside0.mk (hp_); replace HB := Aside0.mk ((by rw [hw]; exact below_set (HB.out) GB16.out : Below w.heap.size w w18)); clear hg hw hp_)); try go_wp2_with (first | (go_at_call 83; (with_reducible refine (earshotref02_Round.calls k2 x6_2 (wrap64 ((l0.length : Int) * 268435456)) t107 _ A13.out).mono ?_); rintro e w' ⟨rfl, ⟨nd, rfl⟩⟩; (try first | exact ⟨rfl, _, World.drewN_drewN _ _ _⟩ | exact ⟨rfl, _, Eq.trans (World.drewN_drewN _ _ _) (congrArg (World.drewN _) (Nat.add_assoc _ _ _))⟩); have p16 : 0 ≤ (x5_1 : Int) := of_decide_eq_true tA; have q16 : (x5_1 : Int) < ((x4_1.length : Int) : Int) := of_decide_eq_true tA; obtain ⟨go16, co16, eo16, gb16, gl16, cl16, HG16⟩ := Kd.R_form HO_4.out (by omega); (first | cases eo16 | (injection eo16 with ea_ en_ ec_; (first | subst ea_ | (injection ea_ with ea_; subst ea_)); subst ec_; clear en_)); have GB16 := Aside0.mk gb16; have GG16 := Aside0.mk HG16; clear gb16 gl16 HG16; obtain ⟨hx16_0, hf16_0⟩ := Kd.R_celln 0 HO_4.out (x5_1 : Int) p16 q16; replace p16 := eq_true p16; replace q16 := eq_true q16; obtain ⟨hy17_, hz17_⟩ := Kd.R_celln 0 HO_4.out (x5_1 : Int) (of_decide_eq_true tA) (of_decide_eq_true tA); have HP17 := Kd.R_putg HO_4.out (x5_1 : Int) t107) | ((with_reducible refine gate_store (t := 3) (p := 49) rfl ?_); (try (rw [drewN_self wr]; generalize hq_ : World.drewN wr _ = wr; (try have hx16_0 := cell_at hq_ hx16_0); (try have hf16_0 := frozen_at hq_ hf16_0); have n0_ := Aside0.mk (Kd.R_at hq_ HO_4.out); have n1_ := Aside0.mk (below_at hq_ HB.out); clear hq_ HO_4 HB; have HO_4 := n0_; have HB := n1_; clear n0_ n1_; (try (obtain ⟨hy17_, hz17_⟩ := Kd.R_celln 0 HO_4.out (x5_1 : Int) (of_decide_eq_true tA) (of_decide_eq_true tA))); (try (have HP17 := Kd.R_putg HO_4.out (x5_1 : Int) t107)))); refine store_event (t := 3) (p := 49) (v := ?vo_w18) (w1 := (wr.setCell ⟨go16, (x5_1 : Int).toNat, none⟩ (.int .i64 t107))) ?hg ?ho ?hn ?hr ?_; (case ho => rfl); (case hg => rfl); (case hn => rfl); (case hr => first | (go_simp; done) | (go_simp; rfl)); intro w18 hw; have hg : wr.grownBy w18 (some go16) := (by rw [hw]; exact HP17.2); have hp_ : Kd.R (Kd.int .i64) 3 w18 w.heap.size (fun _ => True) (.slice (some ⟨go16, 0, none⟩) x4_1.length co16) y108 := (by rw [hw, Ny108.out]; exact HP17.1); clear HP17; replace HO_4 := Aside0.mk (hp_); replace HB := Aside0.mk ((by rw [hw]; exact below_set (HB.out) GB16.out : Below w.heap.size w w18)); clear hg hw hp_)))
            go_roundg k2
            case measure => have := HK1.out; have := HK2.out; omega
            case rel => exact ⟨(y108), (wrap64 (x5_1 + 1)), (by first | rfl | (simp; done) | (simp only [i64_w]; done) | (simp [*]; done)), H', ⟨by have := HK1.out; have := HK2.out; omega⟩, ⟨tR HO_4.out⟩, ⟨tB⟩⟩
           ·rw [if_neg c15] at H
            exact absurd H (by simp)
          ·rw [if_neg c14] at H
           exact absurd H (by simp)
      ·rw [if_neg c7] at H
       exact absurd H (by simp)
     ·rw [if_neg c6] at H
      have c6b0 := decide_eq_false c6
      clear c6
      obtain rfl := Option.some.inj H
      go_wp2
      repeat (go_quiet (fail); try go_wp2)
      go_ret
      exact ⟨_, by first | rfl | (simp [errW_none, errW_some] <;> rfl) | (simp [*, errW_none, errW_some] <;> rfl), tR HO_4.out, tB⟩
  ·rw [if_neg c3] at H
   exact absurd H (by simp)
 ·rw [if_neg c2] at H
  exact absurd H (by simp)

end Go.Proofs.YtdlbmbijobcljaaDoor.X

namespace Go.Proofs.YtdlbmbijobcljaaDoor.Pure
open Go.RowKit Go.Proofs.YtdlbmbijobcljaaDoor.X Go.Proofs.YtdlbmbijobcljaaDoorW.PrintWords Go.Proofs.YtdlbmbijobcljaaDoorW.PrintLast
set_option linter.unusedVariables false
set_option linter.unusedSimpArgs false
set_option linter.unusedSectionVars false
/-- The sum of row i of the inverse transform, its first m + 1 terms; q = 64/n. -/
def invSum (l : List Int) (q : Int) (i : Nat) : Nat → Int
  | 0 => 16384 * rd l 0
  | m + 1 => invSum l q i m + 2 * rd l ((m + 1 : Nat) : Int) * cosv ((2 * (i : Int) + 1) * ((m + 1 : Nat) : Int) * q)
theorem mul_bound (a b A B : Int) (ha0 : -A ≤ a) (ha1 : a ≤ A) (hb0 : -B ≤ b) (hb1 : b ≤ B) : -(A * B) ≤ a * b ∧ a * b ≤ A * B := by
  have hA : 0 ≤ A := by omega
  have hB : 0 ≤ B := by omega
  have h1 : 0 ≤ (A - a) * (B - b) := Int.mul_nonneg (by omega) (by omega)
  have h2 : 0 ≤ (A + a) * (B + b) := Int.mul_nonneg (by omega) (by omega)
  have h3 : 0 ≤ (A - a) * (B + b) := Int.mul_nonneg (by omega) (by omega)
  have h4 : 0 ≤ (A + a) * (B - b) := Int.mul_nonneg (by omega) (by omega)
  simp only [Int.sub_mul, Int.add_mul, Int.mul_sub, Int.mul_add] at h1 h2 h3 h4
  omega
theorem rd_bound (l : List Int) (B : Int) (hB : 0 ≤ B) (h : ∀ x ∈ l, -B ≤ x ∧ x ≤ B) (i : Int) : -B ≤ rd l i ∧ rd l i ≤ B := by
  unfold rd
  rw [List.getD_eq_getElem?_getD]
  rcases Nat.lt_or_ge i.toNat l.length with hl | hl
  · rw [List.getElem?_eq_getElem hl]; exact h _ (List.getElem_mem hl)
  · rw [List.getElem?_eq_none hl]; simp; omega
theorem invSum_bound (l : List Int) (h : ∀ x ∈ l, -1099511627776 ≤ x ∧ x ≤ 1099511627776) (q : Int) (i m : Nat) : -(18014398509481984 + 36028797018963968 * (m : Int)) ≤ invSum l q i m ∧ invSum l q i m ≤ 18014398509481984 + 36028797018963968 * (m : Int) := by
  induction m with
  | zero =>
    have := rd_bound l 1099511627776 (by omega) h 0
    simp only [invSum]
    omega
  | succ m ih =>
    have h1 := rd_bound l 1099511627776 (by omega) h ((m + 1 : Nat) : Int)
    have h2 := cosv_range ((2 * (i : Int) + 1) * ((m + 1 : Nat) : Int) * q)
    have h3 := mul_bound (2 * rd l ((m + 1 : Nat) : Int)) (cosv ((2 * (i : Int) + 1) * ((m + 1 : Nat) : Int) * q)) 2199023255552 16384 (by omega) (by omega) h2.1 h2.2
    simp only [invSum]
    omega
/-- The index of the cosine, as the program and as the document have it. -/
theorem inv_index (n i m : Nat) (q : Int) (hn : 0 < n) (hq : (n : Int) * q = 64) (hn64 : n ≤ 64) (hi : i < n) (hm : m < n) :
    (if (n : Int) = 0 then (none : Option Int) else feature_cosine.f (wrap64 (Int.tdiv (wrap64 ((wrap64 ((wrap64 ((wrap64 (2 * (i : Int))) + 1)) * (m : Int))) * 64)) (n : Int)))) = some (cosv ((2 * (i : Int) + 1) * (m : Int) * q)) := by
  have h0 : 0 ≤ (2 * (i : Int) + 1) * (m : Int) := Int.mul_nonneg (by omega) (by omega)
  have h1 : (2 * (i : Int) + 1) * (m : Int) ≤ 129 * 64 := by
    have := mul_bound (2 * (i : Int) + 1) (m : Int) 129 64 (by omega) (by omega) (by omega) (by omega)
    omega
  have hq0 : 0 < q := by
    by_cases hq1 : 0 < q
    · exact hq1
    · have : (n : Int) * q ≤ (n : Int) * 0 := Int.mul_le_mul_of_nonneg_left (by omega) (by omega)
      omega
  have hq64 : q ≤ 64 := by
    have : 1 * q ≤ (n : Int) * q := Int.mul_le_mul_of_nonneg_right (by omega) (by omega)
    omega
  have h2 := mul_bound ((2 * (i : Int) + 1) * (m : Int)) q (129 * 64) 64 (by omega) (by omega) (by omega) (by omega)
  have h3 : 0 ≤ (2 * (i : Int) + 1) * (m : Int) * q := Int.mul_nonneg h0 (by omega)
  rw [if_neg (by omega), w64 (n := 2 * (i : Int)) (by omega) (by omega), w64 (n := 2 * (i : Int) + 1) (by omega) (by omega), w64 (n := (2 * (i : Int) + 1) * (m : Int)) (by omega) (by omega), w64 (n := (2 * (i : Int) + 1) * (m : Int) * 64) (by omega) (by omega)]
  have e : (2 * (i : Int) + 1) * (m : Int) * 64 = (n : Int) * ((2 * (i : Int) + 1) * (m : Int) * q) := by
    rw [← hq, Int.mul_left_comm]
  rw [e, Int.mul_tdiv_cancel_left _ (by omega : (n : Int) ≠ 0), w64 (by omega) (by omega)]
  unfold feature_cosine.f
  rw [if_pos h3]
theorem inv_index' (n i m : Nat) (q : Int) (hn : 0 < n) (hq0 : 0 < q) (hq64 : q ≤ 64) (hn64 : n ≤ 64) (hi : i < n) (hm : m < n) :
    earshotref03_C.f (wrap64 ((wrap64 ((wrap64 ((wrap64 (2 * (i : Int))) + 1)) * (m : Int))) * (wrap64 q))) = some (cosv ((2 * (i : Int) + 1) * (m : Int) * q)) := by
  have h0 : 0 ≤ (2 * (i : Int) + 1) * (m : Int) := Int.mul_nonneg (by omega) (by omega)
  have h1 := mul_bound (2 * (i : Int) + 1) (m : Int) 129 64 (by omega) (by omega) (by omega) (by omega)
  have h2 := mul_bound ((2 * (i : Int) + 1) * (m : Int)) q (129 * 64) 64 (by omega) (by omega) (by omega) (by omega)
  have h3 : 0 ≤ (2 * (i : Int) + 1) * (m : Int) * q := Int.mul_nonneg h0 (by omega)
  rw [w64 (n := 2 * (i : Int)) (by omega) (by omega), w64 (n := 2 * (i : Int) + 1) (by omega) (by omega), w64 (n := (2 * (i : Int) + 1) * (m : Int)) (by omega) (by omega), w64 (n := q) (by omega) (by omega), w64 (by omega) (by omega)]
  unfold earshotref03_C.f
  rw [if_pos h3]
/-- The inverse transform. -/
def invAt (l : List Int) (n : Nat) (i : Nat) : Int := rnd (invSum l ((64 : Int) / n) i (n - 1)) ((n : Int) * 268435456)
def invList (l : List Int) (n : Nat) (i : Nat) : List Int := (List.range i).map (invAt l n) ++ List.replicate (n - i) 0
theorem invList_length (l : List Int) (n i : Nat) (h : i ≤ n) : (invList l n i).length = n := by simp [invList]; omega
theorem invList_set (l : List Int) (n i : Nat) (h : i < n) : (invList l n i).set i (invAt l n i) = invList l n (i + 1) := by
  unfold invList
  rw [List.range_succ, List.map_append, List.set_append_right _ _ (by simp)]
  simp only [List.length_map, List.length_range, Nat.sub_self, List.map_cons, List.map_nil, List.append_assoc]
  congr 1
  rw [show n - i = (n - (i + 1)) + 1 by omega, List.replicate_succ]
  rfl
section
variable (l : List Int) (n : Nat) (hn : isLen n = true) (hl : l.length = n) (h : ∀ x ∈ l, -1099511627776 ≤ x ∧ x ≤ 1099511627776)
include hn hl h
theorem inv_last (i : Nat) (hi : i < n) (y : List Int) (hy : y.length = n) (R : List Int × Int) (hR : Ev (fun k => feature_Inverse.l0 k l (n : Int) (y.set i (invAt l n i)) (n : Int) ((i + 1 : Nat) : Int)) R) :
    Ev (fun k => (feature_far.f k (invSum l ((64 : Int) / n) i (n - 1)) (wrap64 ((n : Int) * 268435456))).bind fun t109 => (if 0 ≤ (i : Int) then (if (i : Int) < (y.length : Int) then (feature_Inverse.l0 k l (n : Int) (y.set (i : Int).toNat t109) (n : Int) (wrap64 ((i : Int) + 1))) else (none)) else (none))) R := by
  obtain ⟨n0, n1, _⟩ := isLen_dvd n hn
  have hb := invSum_bound l h ((64 : Int) / n) i (n - 1)
  rw [w64 (by omega) (by omega)]
  refine Ev.bind (far_ev _ _ (by omega) (by omega) (by omega) (by omega)) ?_
  refine Ev.congr (fun k => ?_) hR
  rw [if_pos (by omega), if_pos (by omega), w64 (by omega) (by omega), Int.toNat_natCast]
  rfl
theorem inv_row (i : Nat) (hi : i < n) (y : List Int) (hy : y.length = n) (R : List Int × Int) (hR : Ev (fun k => feature_Inverse.l0 k l (n : Int) (y.set i (invAt l n i)) (n : Int) ((i + 1 : Nat) : Int)) R) :
    ∀ r m : Nat, m + r + 1 = n → Ev (fun k => feature_Inverse.l1 k l (n : Int) y (i : Int) (invSum l ((64 : Int) / n) i m) ((m + 1 : Nat) : Int) (n : Int) (i : Int)) R := by
  obtain ⟨n0, n1, n2, n3, n4⟩ := isLen_dvd n hn
  intro r
  induction r with
  | zero =>
    intro m hm
    have := inv_last l n hn hl h i hi y hy R hR
    rw [show n - 1 = m by omega] at this
    refine Ev.step (fun k => ?_) this
    simp only [feature_Inverse.l1]
    rw [if_neg (by omega)]
  | succ r ih =>
    intro m hm
    have := ih (m + 1) (by omega)
    refine Ev.step (fun k => ?_) this
    simp only [feature_Inverse.l1]
    rw [if_pos (by omega), if_pos (by omega), if_pos (by omega)]
    have hx := inv_index n i (m + 1) ((64 : Int) / n) n0 n2 n1 hi (by omega)
    rw [if_neg (by omega)] at hx
    rw [if_neg (by omega), hx, Option.bind_some]
    have hb := invSum_bound l h ((64 : Int) / n) i (m + 1)
    have h1 := rd_bound l 1099511627776 (by omega) h ((m + 1 : Nat) : Int)
    have h2 := cosv_range ((2 * (i : Int) + 1) * ((m + 1 : Nat) : Int) * ((64 : Int) / n))
    have h3 := mul_bound (2 * rd l ((m + 1 : Nat) : Int)) (cosv ((2 * (i : Int) + 1) * ((m + 1 : Nat) : Int) * ((64 : Int) / n))) 2199023255552 16384 (by omega) (by omega) h2.1 h2.2
    rw [w64 (n := 2 * rd l ((m + 1 : Nat) : Int)) (by omega) (by omega), w64 (n := 2 * rd l ((m + 1 : Nat) : Int) * _) (by omega) (by omega)]
    have e : invSum l ((64 : Int) / n) i m + 2 * rd l ((m + 1 : Nat) : Int) * cosv ((2 * (i : Int) + 1) * ((m + 1 : Nat) : Int) * ((64 : Int) / n)) = invSum l ((64 : Int) / n) i (m + 1) := rfl
    rw [e, w64 (by omega) (by omega), w64 (by omega) (by omega), show ((m + 1 : Nat) : Int) + 1 = ((m + 1 + 1 : Nat) : Int) by omega]
theorem inv_loop : ∀ r i : Nat, i + r = n → Ev (fun k => feature_Inverse.l0 k l (n : Int) (invList l n i) (n : Int) (i : Int)) (invList l n n, 0) := by
  obtain ⟨n0, n1, n2, n3, n4⟩ := isLen_dvd n hn
  intro r
  induction r with
  | zero =>
    intro i hi
    refine Ev.step (f := fun _ => some (invList l n n, 0)) (fun k => ?_) (Ev.now _)
    simp only [feature_Inverse.l0]
    rw [if_neg (by omega), show i = n by omega]
  | succ r ih =>
    intro i hi
    have h1 := ih (i + 1) (by omega)
    rw [← invList_set l n i (by omega)] at h1
    have h2 := inv_row l n hn hl h i (by omega) (invList l n i) (invList_length l n i (by omega)) _ h1 (n - 1) 0 (by omega)
    have hb := rd_bound l 1099511627776 (by omega) h 0
    refine Ev.step (fun k => ?_) h2
    simp only [feature_Inverse.l0]
    rw [if_pos (by omega), if_pos (by omega), w64 (n := 16384 * rd l 0) (by omega) (by omega)]
    rfl
theorem inv_last' (i : Nat) (hi : i < n) (y : List Int) (hy : y.length = n) (R : List Int) (hR : Ev (fun k => earshotref03_Inverse.l0 k l (n : Int) (y.set i (invAt l n i)) ((i + 1 : Nat) : Int)) R) :
    Ev (fun k => (earshotref02_Round.f k (invSum l ((64 : Int) / n) i (n - 1)) (wrap64 ((n : Int) * 268435456))).bind fun t107 => (if 0 ≤ (i : Int) then (if (i : Int) < (y.length : Int) then (earshotref03_Inverse.l0 k l (n : Int) (y.set (i : Int).toNat t107) (wrap64 ((i : Int) + 1))) else (none)) else (none))) R := by
  obtain ⟨n0, n1, _⟩ := isLen_dvd n hn
  have hb := invSum_bound l h ((64 : Int) / n) i (n - 1)
  rw [w64 (by omega) (by omega)]
  refine Ev.bind (round_ev _ _ (by omega) (by omega) (by omega) (by omega) (by omega) (by omega)) ?_
  refine Ev.congr (fun k => ?_) hR
  rw [if_pos (by omega), if_pos (by omega), w64 (by omega) (by omega), Int.toNat_natCast]
  rfl
theorem inv_row' (i : Nat) (hi : i < n) (y : List Int) (hy : y.length = n) (R : List Int) (hR : Ev (fun k => earshotref03_Inverse.l0 k l (n : Int) (y.set i (invAt l n i)) ((i + 1 : Nat) : Int)) R) :
    ∀ r m : Nat, m + r + 1 = n → Ev (fun k => earshotref03_Inverse.l1 k l (n : Int) y (i : Int) (invSum l ((64 : Int) / n) i m) ((m + 1 : Nat) : Int)) R := by
  obtain ⟨n0, n1, n2, n3, n4⟩ := isLen_dvd n hn
  intro r
  induction r with
  | zero =>
    intro m hm
    have := inv_last' l n hn hl h i hi y hy R hR
    rw [show n - 1 = m by omega] at this
    refine Ev.step (fun k => ?_) this
    simp only [earshotref03_Inverse.l1]
    rw [if_neg (by omega)]
  | succ r ih =>
    intro m hm
    have := ih (m + 1) (by omega)
    refine Ev.step (fun k => ?_) this
    simp only [earshotref03_Inverse.l1]
    rw [if_pos (by omega), if_pos (by omega), if_pos (by omega)]
    have hx := inv_index' n i (m + 1) ((64 : Int) / n) n0 (by omega) n4 n1 hi (by omega)
    rw [if_neg (by omega), hx, Option.bind_some]
    have hb := invSum_bound l h ((64 : Int) / n) i (m + 1)
    have h1 := rd_bound l 1099511627776 (by omega) h ((m + 1 : Nat) : Int)
    have h2 := cosv_range ((2 * (i : Int) + 1) * ((m + 1 : Nat) : Int) * ((64 : Int) / n))
    have h3 := mul_bound (2 * rd l ((m + 1 : Nat) : Int)) (cosv ((2 * (i : Int) + 1) * ((m + 1 : Nat) : Int) * ((64 : Int) / n))) 2199023255552 16384 (by omega) (by omega) h2.1 h2.2
    rw [w64 (n := 2 * rd l ((m + 1 : Nat) : Int)) (by omega) (by omega), w64 (n := 2 * rd l ((m + 1 : Nat) : Int) * _) (by omega) (by omega)]
    have e : invSum l ((64 : Int) / n) i m + 2 * rd l ((m + 1 : Nat) : Int) * cosv ((2 * (i : Int) + 1) * ((m + 1 : Nat) : Int) * ((64 : Int) / n)) = invSum l ((64 : Int) / n) i (m + 1) := rfl
    rw [e, w64 (by omega) (by omega), w64 (by omega) (by omega), show ((m + 1 : Nat) : Int) + 1 = ((m + 1 + 1 : Nat) : Int) by omega]
theorem inv_loop' : ∀ r i : Nat, i + r = n → Ev (fun k => earshotref03_Inverse.l0 k l (n : Int) (invList l n i) (i : Int)) (invList l n n) := by
  obtain ⟨n0, n1, n2, n3, n4⟩ := isLen_dvd n hn
  intro r
  induction r with
  | zero =>
    intro i hi
    refine Ev.step (f := fun _ => some (invList l n n)) (fun k => ?_) (Ev.now _)
    simp only [earshotref03_Inverse.l0]
    rw [if_neg (by omega), show i = n by omega]
  | succ r ih =>
    intro i hi
    have h1 := ih (i + 1) (by omega)
    rw [← invList_set l n i (by omega)] at h1
    have h2 := inv_row' l n hn hl h i (by omega) (invList l n i) (invList_length l n i (by omega)) _ h1 (n - 1) 0 (by omega)
    have hb := rd_bound l 1099511627776 (by omega) h 0
    refine Ev.step (fun k => ?_) h2
    simp only [earshotref03_Inverse.l0]
    rw [if_pos (by omega), if_pos (by omega), w64 (n := 16384 * rd l 0) (by omega) (by omega)]
    rfl
theorem ref_inverse_ev : Ev (fun k => earshotref03_Inverse.f k l) (invList l n n) := by
  obtain ⟨n0, n1, n2, n3, n4⟩ := isLen_dvd n hn
  refine Ev.congr (fun k => ?_) (inv_loop' l n hn hl h n 0 (by omega))
  unfold earshotref03_Inverse.f
  rw [if_pos (by omega), if_pos (by omega), hl, Int.toNat_natCast]
  rfl
theorem inverse_ok : Ev (fun k => feature_Inverse.f k l) (invList l n n, 0) := by
  obtain ⟨n0, n1, n2, n3, n4⟩ := isLen_dvd n hn
  have hin : allIn l (-1099511627776) 1099511627776 = true := by
    unfold allIn
    rw [List.all_eq_true]
    intro x hx
    have := h x hx
    simp; omega
  have h1 := inv_loop l n hn hl h n 0 (by omega)
  have h2 : Ev (fun k => feature_Inverse.j0 k l (n : Int) false) (invList l n n, 0) := by
    refine Ev.step (fun k => ?_) h1
    simp only [feature_Inverse.j0]
    rw [if_neg (by simp), if_pos (by omega), if_pos (by omega), Option.bind_some, List.length_replicate, Int.toNat_natCast]
    rfl
  refine Ev.congr (fun k => ?_) h2
  unfold feature_Inverse.f
  rw [hl, possible_at, hn, Option.bind_some, if_pos rfl, within_at _ _ (by omega) (by omega), hin, Option.bind_some]
  rfl
end
theorem inverse_bad (l : List Int) (h : isLen l.length = false ∨ allIn l (-1099511627776) 1099511627776 = false) : Ev (fun k => feature_Inverse.f k l) ([], 2) := by
  have h2 : ∀ n, Ev (fun k => feature_Inverse.j0 k l n true) ([], 2) := fun n => Ev.step (f := fun _ => some ([], 2)) (fun k => by simp only [feature_Inverse.j0]; rw [if_pos trivial]) (Ev.now _)
  refine Ev.congr (fun k => ?_) (h2 (l.length : Int))
  unfold feature_Inverse.f
  rw [possible_at, Option.bind_some]
  cases hp : isLen l.length with
  | false => rw [if_neg (by simp)]
  | true =>
    rcases h with h | h
    · rw [hp] at h; cases h
    · rw [if_pos rfl, within_at _ _ (by omega) (by omega), h, Option.bind_some]
      rfl
theorem allIn_iff (l : List Int) (a b : Int) : allIn l a b = true ↔ ∀ x ∈ l, a ≤ x ∧ x ≤ b := by
  unfold allIn
  rw [List.all_eq_true]
  exact ⟨fun h x hx => by have := h x hx; simp at this; exact this, fun h x hx => by have := h x hx; simp; exact this⟩
end Go.Proofs.YtdlbmbijobcljaaDoor.Pure

namespace Go.Proofs.YtdlbmbijobcljaaDoor.X
open Go.RowKit Go.Proofs.YtdlbmbijobcljaaDoorW.PrintWords Go.Proofs.YtdlbmbijobcljaaDoorW.PrintLast Go.Proofs.YtdlbmbijobcljaaDoorW.PrintMore
attribute [local go_sem] max2_int min2_int max_two min_two max_three min_three max_four min_four   -- for this text's walks alone
set_option linter.unusedVariables false
set_option linter.unusedSimpArgs false
/-! ### earshotref03_Transform: function 53 -/
mutual
def earshotref03_Transform.l0 : Nat → List Int → Int → List Int → Int → Option (List Int)
 | 0, _, _, _, _ => none
 | k + 1, x0, x3, x4, x5 => if x5 < x3 then (earshotref03_Transform.l1 k x0 x3 x4 x5 0) else (some x4)
def earshotref03_Transform.l1 : Nat → List Int → Int → List Int → Int → Int → Option (List Int)
 | 0, _, _, _, _, _ => none
 | k + 1, x0, x3, x4, x5, x6 => if x6 < x3 then (if 0 ≤ x5 then (if x5 < (x4.length : Int) then (if 0 ≤ x6 then (if x6 < (x0.length : Int) then (if x3 = 0 then (none) else ((earshotref03_C.f (wrap64 ((wrap64 ((wrap64 ((wrap64 (2 * x6)) + 1)) * x5)) * (wrap64 ((64 : Int) / x3))))).bind fun t106 => (earshotref03_Transform.l1 k x0 x3 (x4.set (x5 : Int).toNat (wrap64 ((rd x4 x5) + (wrap64 ((rd x0 x6) * t106))))) x5 (wrap64 (x6 + 1))))) else (none)) else (none)) else (none)) else (none)) else (earshotref03_Transform.l0 k x0 x3 x4 (wrap64 (x5 + 1)))
end
def earshotref03_Transform.f (k : Nat) (l0 : List Int) : Option (List Int) := if 0 ≤ (l0.length : Int) then (if ((l0.length : Int) : Int).toNat ≤ 35184372088832 then (earshotref03_Transform.l0 k l0 (l0.length : Int) (List.replicate ((l0.length : Int) : Int).toNat 0) 0) else (none)) else (none)
theorem earshotref03_Transform.mono_l : ∀ k, (∀ y0 y1 y2 y3, LeO (earshotref03_Transform.l0 k y0 y1 y2 y3) (earshotref03_Transform.l0 (k + 1) y0 y1 y2 y3)) ∧ (∀ y0 y1 y2 y3 y4, LeO (earshotref03_Transform.l1 k y0 y1 y2 y3 y4) (earshotref03_Transform.l1 (k + 1) y0 y1 y2 y3 y4))
 | 0 => ⟨fun _ _ _ _ r h => by simp [earshotref03_Transform.l0] at h, fun _ _ _ _ _ r h => by simp [earshotref03_Transform.l1] at h⟩
 | k + 1 => by
  obtain ⟨ih0, ih1⟩ := earshotref03_Transform.mono_l k
  refine ⟨?_, ?_⟩
  ·intro y0 y1 y2 y3
   unfold earshotref03_Transform.l0
   repeat' first
   | (with_reducible exact ih0 _ _ _ _)
   | (with_reducible exact ih1 _ _ _ _ _)
   | (with_reducible exact LeO.refl _)
   | (with_reducible exact LeO.none _)
   | (with_reducible refine LeO.ite ?_ ?_)
   | (with_reducible refine LeO.bind ?_ (fun _ => ?_))
   | exact ih0 _ _ _ _
   | exact ih1 _ _ _ _ _
   | exact LeO.none _
   | refine LeO.ite ?_ ?_
   | refine LeO.bind ?_ (fun _ => ?_)
  ·intro y0 y1 y2 y3 y4
   unfold earshotref03_Transform.l1
   repeat' first
   | (with_reducible exact ih0 _ _ _ _)
   | (with_reducible exact ih1 _ _ _ _ _)
   | (with_reducible exact LeO.refl _)
   | (with_reducible exact LeO.none _)
   | (with_reducible refine LeO.ite ?_ ?_)
   | (with_reducible refine LeO.bind ?_ (fun _ => ?_))
   | exact ih0 _ _ _ _
   | exact ih1 _ _ _ _ _
   | exact LeO.none _
   | refine LeO.ite ?_ ?_
   | refine LeO.bind ?_ (fun _ => ?_)
theorem earshotref03_Transform.mono : ∀ a0 k, LeO (earshotref03_Transform.f k a0) (earshotref03_Transform.f (k + 1) a0) := by
 intro a0 k
 obtain ⟨ih0, ih1⟩ := earshotref03_Transform.mono_l k
 unfold earshotref03_Transform.f
 repeat' first
   | (with_reducible exact ih0 _ _ _ _)
   | (with_reducible exact ih1 _ _ _ _ _)
   | (with_reducible exact LeO.refl _)
   | (with_reducible exact LeO.none _)
   | (with_reducible refine LeO.ite ?_ ?_)
   | (with_reducible refine LeO.bind ?_ (fun _ => ?_))
   | exact ih0 _ _ _ _
   | exact ih1 _ _ _ _ _
   | exact LeO.none _
   | refine LeO.ite ?_ ?_
   | refine LeO.bind ?_ (fun _ => ?_)
def earshotref03_Transform.T9 : Bool × List (List Nat × List Nat) := (true, [([], []), ([], []), ([], []), ([], []), ([2, 3], [2, 3]), ([4], [4]), ([], []), ([], []), ([6, 7], [6, 7]), ([8], [8]), ([], []), ([10], [10]), ([11], [11]), ([], []), ([12, 13], [12, 13]), ([], []), ([15], [15]), ([14, 16], [14, 16]), ([17], [17]), ([9, 18], [9, 18]), ([5, 19], [5, 19]), ([0, 1, 0, 1, 2, 3, 4, 5, 6, 7, 8, 9, 10, 11, 12, 13, 14, 15, 16, 17, 18, 19, 20], [0, 1]), ([21, 20, 18, 0, 1, 2, 3, 4, 5, 6, 7, 8, 9, 10, 11, 12, 13, 14, 15, 16, 17, 18, 19, 20], [20, 21])])
def earshotref03_Transform.B9 : List Nat := [0, 0, 0, 0, 12, 28, 0, 0, 192, 448, 0, 1024, 3072, 0, 15360, 0, 32768, 130048, 261120, 524224, 1048572, 2097151, 4194303]
theorem earshotref03_Transform.tab9 : rtab .any (opsOf Tryd.f53 9) = earshotref03_Transform.T9 := by kernel_rfl
theorem earshotref03_Transform.bits9 : waitsOk earshotref03_Transform.T9.2 earshotref03_Transform.B9 = true := by kernel_rfl
set_option maxHeartbeats 8000000 in
set_option maxRecDepth 100000 in
theorem earshotref03_Transform.calls (k : Nat) (A0 : Option Addr) (c0 : Nat) (l0 : List Int) (r : List Int) (w : World) (ht : Kd.C (Kd.int .i64) w (some ⟨0, 0, none⟩) 65 tabL) (hr0 : Kd.C (Kd.int .i64) w A0 l0.length l0) (hc0 : l0.length ≤ c0) (h : earshotref03_Transform.f k l0 = some r) :
  Calls Tryd.prog 53 #[.slice A0 l0.length c0] w fun e w' => ∃ v0_ : Value, e = .returned (v0_) ∧ Kd.R (Kd.int .i64) 3 w' w.heap.size (fun _ => True) v0_ r ∧ Below w.heap.size w w' := by
 have HRT := Aside0.mk ht
 clear ht
 have HR0 := Aside0.mk hr0
 have HC0 := Aside0.mk hc0
 clear hr0 hc0
 have HB := Aside0.mk (Below.refl w.heap.size w)
 have H : (if 0 ≤ (l0.length : Int) then (if ((l0.length : Int) : Int).toNat ≤ 35184372088832 then (earshotref03_Transform.l0 k l0 (l0.length : Int) (List.replicate ((l0.length : Int) : Int).toNat 0) 0) else (none)) else (none)) = some r := h
 clear h
 by_cases c2 : 0 ≤ (l0.length : Int)
 ·rw [if_pos c2] at H
  have c2b0 := eq_true c2
  have c2b1 := decide_eq_true c2
  clear c2
  by_cases c3 : ((l0.length : Int) : Int).toNat ≤ 35184372088832
  ·rw [if_pos c3] at H
   have c3b0 := eq_true c3
   have c3b1 := decide_eq_true c3
   clear c3
   obtain ⟨y101, hy101⟩ : ∃ y_ : List Int, y_ = (List.replicate ((l0.length : Int) : Int).toNat 0) := ⟨_, rfl⟩
   replace H : (earshotref03_Transform.l0 k l0 (l0.length : Int) y101 0) = some r := by first | (rw [hy101]; with_reducible exact H) | (have H2_ := (Option.bind_some _ _).symm.trans H; rw [hy101]; with_reducible exact H2_) | (have H2_ := (Option.bind_some _ _).symm.trans H; with_reducible exact H2_) | with_reducible exact H | (rw [hy101]; exact H) | exact H
   have Ny101 := Aside0.mk hy101
   clear hy101
   have H' := Aside0.mk H
   clear H
   go_enter Tryd.func53, Tryd.ntmps53
   go_wp2_with (first | ((with_reducible refine gate_dst (N := 10) rfl ?_); refine Kd.R_make (Kd.int .i64) _ 3 rfl (N := 10) rfl 22 _ _ rfl (l0.length : Int) rfl rfl Tryd.underlying22 (.int .i64 0) 8 info3 rfl (by decide) (by omega) 0 (ok := fun _ => True) (okp := fun _ => True) rfl (fun _ hk => hk) trivial (of_decide_eq_true tA) (Nat.le_trans (Nat.mul_le_mul_right _ (of_decide_eq_true tA : (l0.length : Int).toNat ≤ 35184372088832)) (by omega)) (Below.refl _ _) (Nat.le_refl _) ?_; intro v102 w4 ho5 hb hg_ hnew_; clear hg_ hnew_; (first | rw [← Ny101.out] at ho5 | (simp only [Int.reduceToNat] at ho5; rw [← Ny101.out] at ho5)); have HO103 := Aside0.mk (Kd.R_lower ho5 (below_size tB)); replace HB := Aside0.mk (below_step tB hb); clear hb ho5))
   go_loopg [5] k (fun kq v5 w' => ∃ (x4_1 : List Int) (x5_1 : Int), v5 = .int .i64 x5_1 ∧ Aside0 (earshotref03_Transform.l0 kq l0 (l0.length : Int) x4_1 x5_1 = some r) ∧ Aside0 (kq ≤ k) ∧ Aside0 (Kd.R (Kd.int .i64) 3 w' w.heap.size (fun _ => True) v102 x4_1) ∧ Aside0 (Below w.heap.size w w'))
   case atStart => exact ⟨(y101), (0), (by first | rfl | (simp; done) | (simp only [i64_w]; done) | (simp [*]; done)), H', ⟨Nat.le_refl _⟩, ⟨tR HO103.out⟩, ⟨tB⟩⟩
   case round =>
    clear H'
    try clear c2
    try clear c2b0
    try clear c2b1
    try clear p2
    try clear c3
    try clear c3b0
    try clear c3b1
    try clear c5
    obtain ⟨x4_1, x5_1, rfl, HA, HK1, HO_4, HB⟩ := hrel
    cases gk with
    | zero => exact absurd HA.out (by simp [earshotref03_Transform.l0])
    | succ k1 =>
     have H := HA.out
     clear HA
     simp only [earshotref03_Transform.l0] at H
     by_cases c6 : x5_1 < (l0.length : Int)
     ·rw [if_pos c6] at H
      have c6b0 := decide_eq_true c6
      clear c6
      have H' := Aside0.mk H
      clear H
      go_wp2
      go_loopg [6] k1 (fun kq v6 w' => ∃ (x4_2 : List Int) (x6_2 : Int), v6 = .int .i64 x6_2 ∧ Aside0 (earshotref03_Transform.l1 kq l0 (l0.length : Int) x4_2 x5_1 x6_2 = some r) ∧ Aside0 (kq ≤ k1) ∧ Aside0 (Kd.R (Kd.int .i64) 3 w' w.heap.size (fun _ => True) v102 x4_2) ∧ Aside0 (Below w.heap.size w w'))
      case atStart => exact ⟨(x4_1), (0), (by first | rfl | (simp; done) | (simp only [i64_w]; done) | (simp [*]; done)), H', ⟨Nat.le_refl _⟩, ⟨tR HO_4.out⟩, ⟨tB⟩⟩
      case round =>
       clear H'
       try clear c2
       try clear c2b0
       try clear c2b1
       try clear p2
       try clear c3
       try clear c3b0
       try clear c3b1
       try clear c5
       try clear c6
       try clear c6b0
       try clear p2
       obtain ⟨x4_2, x6_2, rfl, HA, HK2, HO_4, HB⟩ := hrel
       cases gk with
       | zero => exact absurd HA.out (by simp [earshotref03_Transform.l1])
       | succ k2 =>
        have H := HA.out
        clear HA
        simp only [earshotref03_Transform.l1] at H
        by_cases c7 : x6_2 < (l0.length : Int)
        ·rw [if_pos c7] at H
         have c7b0 := decide_eq_true c7
         clear c7
         by_cases c8 : 0 ≤ x5_1
         ·rw [if_pos c8] at H
          have c8b0 := decide_eq_true c8
          clear c8
          by_cases c9 : x5_1 < (x4_2.length : Int)
          ·rw [if_pos c9] at H
           have c9b0 := decide_eq_true c9
           clear c9
           by_cases c10 : 0 ≤ x6_2
           ·rw [if_pos c10] at H
            have c10b0 := decide_eq_true c10
            clear c10
            by_cases c11 : x6_2 < (l0.length : Int)
            ·rw [if_pos c11] at H
             have c11b0 := decide_eq_true c11
             clear c11
             by_cases c12 : (l0.length : Int) = 0
             ·rw [if_pos c12] at H
              exact absurd H (by simp)
             ·rw [if_neg c12] at H
              have c12b0 : ((l0.length : Int) == 0) = false := beq_eq_false_iff_ne.mpr c12
              have c12b1 : ((l0.length : Int) != 0) = true := bne_iff_ne.mpr c12
              have c12b2 : ¬ (l0 = []) := fun h_ => c12 (by rw [h_]; rfl)
              replace H := Option.bind_eq_some_iff.mp H
              obtain ⟨t106, A130, H⟩ := H
              try dsimp only at H
              have A13 := Aside0.mk A130
              clear A130
              obtain ⟨y107, hy107⟩ : ∃ y_ : List Int, y_ = (x4_2.set (x5_1 : Int).toNat (wrap64 ((rd x4_2 x5_1) + (wrap64 ((rd l0 x6_2) * t106))))) := ⟨_, rfl⟩
              replace H : (earshotref03_Transform.l1 k2 l0 (l0.length : Int) y107 x5_1 (wrap64 (x6_2 + 1))) = some r := by first | (rw [hy107]; with_reducible exact H) | (have H2_ := (Option.bind_some _ _).symm.trans H; rw [hy107]; with_reducible exact H2_) | (have H2_ := (Option.bind_some _ _).symm.trans H; with_reducible exact H2_) | with_reducible exact H | (rw [hy107]; exact H) | exact H
              have Ny107 := Aside0.mk hy107
              clear hy107
              have H' := Aside0.mk H
              clear H
              try go_wp2
              replace HO_4 := Aside0.mk (Kd.R_drew HO_4.out)
              replace HB := Aside0.mk (below_drew1 HB.out)
              obtain ⟨Ao16, co16, eo16⟩ := Kd.R_slice HO_4.out
              (first | subst eo16 | (injection eo16 with f1_ f2_ f3_; have f4_ := f1_.symm; have f5_ := f3_.symm; clear f1_ f2_ f3_; subst f4_; subst f5_))
              have p104 : 0 ≤ (x5_1 : Int) := of_decide_eq_true tA
              have q104 : x5_1 < (x4_2.length : Int) := of_decide_eq_true tA
              obtain ⟨ad104, e104, hx104_0⟩ := Kd.at_int (Kd.R_reads' HO_4.out).2.2 x5_1 p104 q104
              cases e104
              replace p104 := eq_true p104
              replace q104 := eq_true q104
              have p105 : 0 ≤ (x6_2 : Int) := of_decide_eq_true tA
              have q105 : x6_2 < (l0.length : Int) := of_decide_eq_true tA
              obtain ⟨ad105, e105, hx105_0⟩ := Kd.at_int HR0.out x6_2 p105 q105
              have hw105_0 := hx105_0
              cases e105
              replace hx105_0 := (HB.out.cell (World.block_lt_of_cell? w _ hx105_0)).trans hx105_0
              replace p105 := eq_true p105
              replace q105 := eq_true q105
              refine start_ (n := 23) (S := fun w' => w'.cell? (ad104.add (x5_1).toNat) = some (.int .i64 (rd x4_2 x5_1)) ∧ w'.cell? (ad105.add (x6_2).toNat) = some (.int .i64 (rd l0 x6_2))) (ds := [22]) (bm 0 23) (by kernel_rfl) rfl rfl ⟨hx104_0, ((HB.out.cell (World.block_lt_of_cell? w _ hw105_0)).trans hw105_0)⟩ (fun hHeld => ?_); refine with_tabW earshotref03_Transform.tab9 earshotref03_Transform.bits9 (fun HT_ HW_ => ?_)
              generalize wr.drew = w15 at HO_4 HB hx104_0 hx105_0 hHeld ⊢
              refine pI 0 (some 21) (bm 1 23) HT_.out ?_
              refine pI 1 (some 22) (bm 2 23) HT_.out ?_
              refine pI 2 (some 23) (bm 3 23) HT_.out ?_
              refine pI 3 (some 24) (bm 4 23) HT_.out ?_
              refine pI 4 (some 25) (bm 5 23) HT_.out ?_
              refine pI 6 (some 27) (bq 95 23) HT_.out ?_
              refine pI 7 (some 28) (bq 223 23) HT_.out ?_
              refine pI 8 (some 29) (bq 479 23) HT_.out ?_
              refine pI 10 (some 31) (bq 1503 23) HT_.out ?_
              refine pI 11 (some 32) (bq 3551 23) HT_.out ?_
              refine pI 12 (some 33) (bq 7647 23) HT_.out ?_
              refine pI 13 (some 34) (bq 15839 23) HT_.out ?_
              refine pI 14 (some 35) (bq 32223 23) HT_.out ?_
              refine pI 15 (some 36) (bq 64991 23) HT_.out ?_
              refine pI 16 (some 37) (bq 130527 23) HT_.out ?_
              refine pI 17 (some 38) (bq 261599 23) HT_.out ?_
              refine tk2 5 (some 26) (bq 261631 23) HT_.out HW_.out hHeld ?_
              refine tk2 9 (some 30) (bm 18 23) HT_.out HW_.out hHeld ?_
              refine one_ (i := 18) (N := some 39) (bm 19 23) rfl rfl (one_of HT_.out (by kernel_rfl)) (by decide) (fun K hK => ?_)
              refine goes_ Tryd.func48 (by kernel_rfl) rfl #[.int .i64 (wrap64 ((wrap64 ((wrap64 ((wrap64 (2 * x6_2)) + 1)) * x5_1)) * (wrap64 ((64 : Int) / (l0.length : Int)))))] (by rfl) rfl rfl tL ?_
              with_reducible refine (earshotref03_C.calls (wrap64 ((wrap64 ((wrap64 ((wrap64 (2 * x6_2)) + 1)) * x5_1)) * (wrap64 ((64 : Int) / (l0.length : Int))))) t106 _ ?side1 A13.out).mono ?_
              (case side1 => exact tC (Kd.C_below HRT.out HB.out))
              rintro e w' ⟨rfl, ⟨nd, rfl⟩⟩
              refine ⟨_, rfl, ?_⟩
              have p14 : 0 ≤ (x5_1 : Int) := of_decide_eq_true tA
              have q14 : (x5_1 : Int) < ((x4_2.length : Int) : Int) := of_decide_eq_true tA
              obtain ⟨go14, co14, eo14, gb14, gl14, cl14, HG14⟩ := Kd.R_form HO_4.out (by omega)
              (first | cases eo14 | (injection eo14 with ea_ en_ ec_; (first | subst ea_ | (injection ea_ with ea_; subst ea_)); subst ec_; clear en_))
              have GB14 := Aside0.mk gb14
              have GG14 := Aside0.mk HG14
              clear gb14 gl14 HG14
              (first | simp only [add_plain] at hx104_0 | skip)
              obtain ⟨hx14_0, hf14_0⟩ := Kd.R_celln 0 HO_4.out (x5_1 : Int) p14 q14
              replace p14 := eq_true p14
              replace q14 := eq_true q14
              have HP17 := Kd.R_putn HO_4.out (x5_1 : Int) (wrap64 ((rd x4_2 x5_1) + (wrap64 ((rd l0 x6_2) * t106))))
              rw [← Ny107.out] at HP17
              have HQ17 := Aside0.mk HP17
              clear HP17
              refine hK.out _ _ ⟨hHeld.1, ((HB.out.cell (World.block_lt_of_cell? w _ hw105_0)).trans hw105_0)⟩ (fun hHeld => ?_)
              clear hK K
              refine nm ?_
              refine pI 19 (some 40) (bm 20 23) HT_.out ?_
              refine pI 20 (some 41) (bm 21 23) HT_.out ?_
              refine pI 21 (some 42) (bm 22 23) HT_.out ?_
              refine last_ (i := 22) (N := none) (bm 23 23) rfl rfl (one_of HT_.out (by kernel_rfl)) (by decide) (fun K hK => ?_)
              refine skip_ (w1 := ?_) (by rfl) rfl ?_ ?_
              rotate_left
              ·go_simp
               rfl
              refine hK.out _ _ ?_
              clear hK K
              refine done_ (done_of HT_.out (by kernel_rfl)) ?_
              try go_wp2
              go_roundg k2
              case measure => have := HK1.out; have := HK2.out; omega
              case rel => exact ⟨(y107), (wrap64 (x6_2 + 1)), (by first | rfl | (simp; done) | (simp only [i64_w]; done) | (simp [*]; done)), H', ⟨by have := HK1.out; have := HK2.out; omega⟩, ⟨tR HQ17.out⟩, ⟨by repeat (first | (with_reducible first | exact HB.out | apply below_alloc | apply pw_below_drewN | apply below_drew1 | refine below_set ?_ GB14.out) | exact HB.out)⟩⟩
            ·rw [if_neg c11] at H
             exact absurd H (by simp)
           ·rw [if_neg c10] at H
            exact absurd H (by simp)
          ·rw [if_neg c9] at H
           exact absurd H (by simp)
         ·rw [if_neg c8] at H
          exact absurd H (by simp)
        ·rw [if_neg c7] at H
         have c7b0 := decide_eq_false c7
         clear c7
         have H' := Aside0.mk H
         clear H
         go_wp2
         go_roundg k2
         case measure => have := HK1.out; have := HK2.out; omega
         case rel => exact ⟨(x4_2), (wrap64 (x5_1 + 1)), (by first | rfl | (simp; done) | (simp only [i64_w]; done) | (simp [*]; done)), H', ⟨by have := HK1.out; have := HK2.out; omega⟩, ⟨tR HO_4.out⟩, ⟨tB⟩⟩
     ·rw [if_neg c6] at H
      have c6b0 := decide_eq_false c6
      clear c6
      obtain rfl := Option.some.inj H
      go_wp2
      go_ret
      exact ⟨_, by first | rfl | (simp [errW_none, errW_some] <;> rfl) | (simp [*, errW_none, errW_some] <;> rfl), tR HO_4.out, tB⟩
  ·rw [if_neg c3] at H
   exact absurd H (by simp)
 ·rw [if_neg c2] at H
  exact absurd H (by simp)

end Go.Proofs.YtdlbmbijobcljaaDoor.X
