/- FeatureCenters: for every input whatever the law returns true, and each argument reads behind the call as it read before. Conditions: those of the row: the listed variable earshot/api.Cosines reads as laid, which the card ties to the program's text. By a program of this session's own (wip/print/gen_row2.py). -/
import Derived.Test.YtdlbmbijobcljaaDoorMA
import Derived.Test.YtdlbmbijobcljaaDoorLaFeatureCenters
import Derived.Test.YtdlbmbijobcljaaDoorMB
import Derived.Test.YtdlbmbijobcljaaDoorMK
import Derived.Test.YtdlbmbijobcljaaDoorRows
import Derived.Deep.Matrix
import Derived.ProofKit
import Derived.OpenShut
import Derived.Test.YtdlbmbijobcljaaDoorCards
import Derived.Test.YtdlbmbijobcljaaDoorMJ
import Derived.Test.YtdlbmbijobcljaaDoorHJoinedE
import Derived.Test.YtdlbmbijobcljaaDoorTie
import Derived.LaidMore
import Derived.Stop.Joined
import Derived.SevenTiedAt
import Derived.WalkKit
import Derived.ShutString
import Derived.ChangeOld
import Derived.Below
import Derived.SizedLaws
import Derived.Test.YtdlbmbijobcljaaDoorVA
namespace Go.Proofs.YtdlbmbijobcljaaDoor.X
open Go.RowKit Go.Proofs.YtdlbmbijobcljaaDoorW.PrintWords Go.Proofs.YtdlbmbijobcljaaDoorW.PrintLast Go.Proofs.YtdlbmbijobcljaaDoorW.PrintMore
attribute [local go_sem] max2_int min2_int max_two min_two max_three min_three max_four min_four   -- for this text's walks alone
set_option linter.unusedVariables false
set_option linter.unusedSimpArgs false
/-! ### earshotref03_Inverse: function 27 -/
mutual
def earshotref03_Inverse.l0 : Nat → List Int → Int → List Int → Int → Option (List Int)
 | 0, _, _, _, _ => none
 | k + 1, x0, x3, x4, x5 => if x5 < x3 then (if 0 < (x0.length : Int) then (earshotref03_Inverse.l1 k x0 x3 x4 x5 (wrap64 (16384 * (rd x0 0))) 1) else (none)) else (some x4)
def earshotref03_Inverse.l1 : Nat → List Int → Int → List Int → Int → Int → Int → Option (List Int)
 | 0, _, _, _, _, _, _ => none
 | k + 1, x0, x3, x4, x5, x6, x7 => if x7 < x3 then (if 0 ≤ x7 then (if x7 < (x0.length : Int) then (if x3 = 0 then (none) else ((earshotref03_C.f (wrap64 ((wrap64 ((wrap64 ((wrap64 (2 * x5)) + 1)) * x7)) * (wrap64 ((64 : Int) / x3))))).bind fun t106 => (earshotref03_Inverse.l1 k x0 x3 x4 x5 (wrap64 (x6 + (wrap64 ((wrap64 (2 * (rd x0 x7))) * t106)))) (wrap64 (x7 + 1))))) else (none)) else (none)) else ((earshotref02_Round.f k x6 (wrap64 (x3 * 268435456))).bind fun t107 => (if 0 ≤ x5 then (if x5 < (x4.length : Int) then (earshotref03_Inverse.l0 k x0 x3 (x4.set (x5 : Int).toNat t107) (wrap64 (x5 + 1))) else (none)) else (none)))
end
def earshotref03_Inverse.f (k : Nat) (l0 : List Int) : Option (List Int) := if 0 ≤ (l0.length : Int) then (if ((l0.length : Int) : Int).toNat ≤ 35184372088832 then (earshotref03_Inverse.l0 k l0 (l0.length : Int) (List.replicate ((l0.length : Int) : Int).toNat 0) 0) else (none)) else (none)
theorem earshotref03_Inverse.mono_l : ∀ k, (∀ y0 y1 y2 y3, LeO (earshotref03_Inverse.l0 k y0 y1 y2 y3) (earshotref03_Inverse.l0 (k + 1) y0 y1 y2 y3)) ∧ (∀ y0 y1 y2 y3 y4 y5, LeO (earshotref03_Inverse.l1 k y0 y1 y2 y3 y4 y5) (earshotref03_Inverse.l1 (k + 1) y0 y1 y2 y3 y4 y5))
 | 0 => ⟨fun _ _ _ _ r h => by simp [earshotref03_Inverse.l0] at h, fun _ _ _ _ _ _ r h => by simp [earshotref03_Inverse.l1] at h⟩
 | k + 1 => by
  obtain ⟨ih0, ih1⟩ := earshotref03_Inverse.mono_l k
  refine ⟨?_, ?_⟩
  ·intro y0 y1 y2 y3
   unfold earshotref03_Inverse.l0
   repeat' first
   | (with_reducible exact ih0 _ _ _ _)
   | (with_reducible exact ih1 _ _ _ _ _ _)
   | (with_reducible exact earshotref02_Round.mono _ _ _)
   | (with_reducible exact LeO.refl _)
   | (with_reducible exact LeO.none _)
   | (with_reducible refine LeO.ite ?_ ?_)
   | (with_reducible refine LeO.bind ?_ (fun _ => ?_))
   | exact ih0 _ _ _ _
   | exact ih1 _ _ _ _ _ _
   | exact earshotref02_Round.mono _ _ _
   | exact LeO.none _
   | refine LeO.ite ?_ ?_
   | refine LeO.bind ?_ (fun _ => ?_)
  ·intro y0 y1 y2 y3 y4 y5
   unfold earshotref03_Inverse.l1
   repeat' first
   | (with_reducible exact ih0 _ _ _ _)
   | (with_reducible exact ih1 _ _ _ _ _ _)
   | (with_reducible exact earshotref02_Round.mono _ _ _)
   | (with_reducible exact LeO.refl _)
   | (with_reducible exact LeO.none _)
   | (with_reducible refine LeO.ite ?_ ?_)
   | (with_reducible refine LeO.bind ?_ (fun _ => ?_))
   | exact ih0 _ _ _ _
   | exact ih1 _ _ _ _ _ _
   | exact earshotref02_Round.mono _ _ _
   | exact LeO.none _
   | refine LeO.ite ?_ ?_
   | refine LeO.bind ?_ (fun _ => ?_)
theorem earshotref03_Inverse.mono : ∀ a0 k, LeO (earshotref03_Inverse.f k a0) (earshotref03_Inverse.f (k + 1) a0) := by
 intro a0 k
 obtain ⟨ih0, ih1⟩ := earshotref03_Inverse.mono_l k
 unfold earshotref03_Inverse.f
 repeat' first
   | (with_reducible exact ih0 _ _ _ _)
   | (with_reducible exact ih1 _ _ _ _ _ _)
   | (with_reducible exact earshotref02_Round.mono _ _ _)
   | (with_reducible exact LeO.refl _)
   | (with_reducible exact LeO.none _)
   | (with_reducible refine LeO.ite ?_ ?_)
   | (with_reducible refine LeO.bind ?_ (fun _ => ?_))
   | exact ih0 _ _ _ _
   | exact ih1 _ _ _ _ _ _
   | exact earshotref02_Round.mono _ _ _
   | exact LeO.none _
   | refine LeO.ite ?_ ?_
   | refine LeO.bind ?_ (fun _ => ?_)
set_option maxHeartbeats 8000000 in
set_option maxRecDepth 100000 in
theorem earshotref03_Inverse.calls (k : Nat) (A0 : Option Addr) (c0 : Nat) (l0 : List Int) (r : List Int) (w : World) (ht : Kd.C (Kd.int .i64) w (some ⟨0, 0, none⟩) 65 tabL) (hr0 : Kd.C (Kd.int .i64) w A0 l0.length l0) (hc0 : l0.length ≤ c0) (h : earshotref03_Inverse.f k l0 = some r) :
  Calls Tryd.prog 27 #[.slice A0 l0.length c0] w fun e w' => ∃ v0_ : Value, e = .returned (v0_) ∧ Kd.R (Kd.int .i64) 3 w' w.heap.size (fun _ => True) v0_ r ∧ Below w.heap.size w w' := by
 have HRT := Aside0.mk ht
 clear ht
 have HR0 := Aside0.mk hr0
 have HC0 := Aside0.mk hc0
 clear hr0 hc0
 have HB := Aside0.mk (Below.refl w.heap.size w)
 have H : (if 0 ≤ (l0.length : Int) then (if ((l0.length : Int) : Int).toNat ≤ 35184372088832 then (earshotref03_Inverse.l0 k l0 (l0.length : Int) (List.replicate ((l0.length : Int) : Int).toNat 0) 0) else (none)) else (none)) = some r := h
 clear h
 by_cases c2 : 0 ≤ (l0.length : Int)
 ·rw [if_pos c2] at H
  have c2b0 := eq_true c2
  have c2b1 := decide_eq_true c2
  clear c2
  by_cases c3 : ((l0.length : Int) : Int).toNat ≤ 35184372088832
  ·rw [if_pos c3] at H
   have c3b0 := eq_true c3
   have c3b1 := decide_eq_true c3
   clear c3
   obtain ⟨y101, hy101⟩ : ∃ y_ : List Int, y_ = (List.replicate ((l0.length : Int) : Int).toNat 0) := ⟨_, rfl⟩
   replace H : (earshotref03_Inverse.l0 k l0 (l0.length : Int) y101 0) = some r := by first | (rw [hy101]; with_reducible exact H) | (have H2_ := (Option.bind_some _ _).symm.trans H; rw [hy101]; with_reducible exact H2_) | (have H2_ := (Option.bind_some _ _).symm.trans H; with_reducible exact H2_) | with_reducible exact H | (rw [hy101]; exact H) | exact H
   have Ny101 := Aside0.mk hy101
   clear hy101
   have H' := Aside0.mk H
   clear H
   go_enter Tryd.func27, Tryd.ntmps27
   go_wp2_with (first | ((with_reducible refine gate_dst (N := 11) rfl ?_); refine Kd.R_make (Kd.int .i64) _ 3 rfl (N := 11) rfl 22 _ _ rfl (l0.length : Int) rfl rfl Tryd.underlying22 (.int .i64 0) 8 info3 rfl (by decide) (by omega) 0 (ok := fun _ => True) (okp := fun _ => True) rfl (fun _ hk => hk) trivial (of_decide_eq_true tA) (Nat.le_trans (Nat.mul_le_mul_right _ (of_decide_eq_true tA : (l0.length : Int).toNat ≤ 35184372088832)) (by omega)) (Below.refl _ _) (Nat.le_refl _) ?_; intro v102 w4 ho5 hb hg_ hnew_; clear hg_ hnew_; (first | rw [← Ny101.out] at ho5 | (simp only [Int.reduceToNat] at ho5; rw [← Ny101.out] at ho5)); have n0_ := Aside0.mk (Kd.R_lower ho5 (below_size tB)); have n1_ := Aside0.mk (below_step tB hb); clear HB; have HO103 := n0_; have HB := n1_; clear n0_ n1_; clear hb ho5))
   repeat (go_quiet (first | ((with_reducible refine gate_dst (N := 11) rfl ?_); refine Kd.R_make (Kd.int .i64) _ 3 rfl (N := 11) rfl 22 _ _ rfl (l0.length : Int) rfl rfl Tryd.underlying22 (.int .i64 0) 8 info3 rfl (by decide) (by omega) 0 (ok := fun _ => True) (okp := fun _ => True) rfl (fun _ hk => hk) trivial (of_decide_eq_true tA) (Nat.le_trans (Nat.mul_le_mul_right _ (of_decide_eq_true tA : (l0.length : Int).toNat ≤ 35184372088832)) (by omega)) (Below.refl _ _) (Nat.le_refl _) ?_; intro v102 w4 ho5 hb hg_ hnew_; clear hg_ hnew_; (first | rw [← Ny101.out] at ho5 | (simp only [Int.reduceToNat] at ho5; rw [← Ny101.out] at ho5)); have n0_ := Aside0.mk (Kd.R_lower ho5 (below_size tB)); have n1_ := Aside0.mk (below_step tB hb); clear HB; have HO103 := n0_; have HB := n1_; clear n0_ n1_; clear hb ho5)); try go_wp2_with (first | ((with_reducible refine gate_dst (N := 11) rfl ?_); refine Kd.R_make (Kd.int .i64) _ 3 rfl (N := 11) rfl 22 _ _ rfl (l0.length : Int) rfl rfl Tryd.underlying22 (.int .i64 0) 8 info3 rfl (by decide) (by omega) 0 (ok := fun _ => True) (okp := fun _ => True) rfl (fun _ hk => hk) trivial (of_decide_eq_true tA) (Nat.le_trans (Nat.mul_le_mul_right _ (of_decide_eq_true tA : (l0.length : Int).toNat ≤ 35184372088832)) (by omega)) (Below.refl _ _) (Nat.le_refl _) ?_; intro v102 w4 ho5 hb hg_ hnew_; clear hg_ hnew_; (first | rw [← Ny101.out] at ho5 | (simp only [Int.reduceToNat] at ho5; rw [← Ny101.out] at ho5)); have n0_ := Aside0.mk (Kd.R_lower ho5 (below_size tB)); have n1_ := Aside0.mk (below_step tB hb); clear HB; have HO103 := n0_; have HB := n1_; clear n0_ n1_; clear hb ho5)))
   go_loopg [5] k (fun kq v5 w' => ∃ (x4_1 : List Int) (x5_1 : Int), v5 = .int .i64 x5_1 ∧ Aside0 (earshotref03_Inverse.l0 kq l0 (l0.length : Int) x4_1 x5_1 = some r) ∧ Aside0 (kq ≤ k) ∧ Aside0 (Kd.R (Kd.int .i64) 3 w' w.heap.size (fun _ => True) v102 x4_1) ∧ Aside0 (Below w.heap.size w w'))
   case atStart => exact ⟨(y101), (0), (by first | rfl | (simp; done) | (simp only [i64_w]; done) | (simp [*]; done)), H', ⟨Nat.le_refl _⟩, ⟨tR HO103.out⟩, ⟨tB⟩⟩
   case round =>
    clear H'
    try clear c2
    try clear c2b0
    try clear c2b1
    try clear p2
    try clear c3
    try clear c3b0
    try clear c3b1
    obtain ⟨x4_1, x5_1, rfl, HA, HK1, HO_4, HB⟩ := hrel
    cases gk with
    | zero => exact absurd HA.out (by simp [earshotref03_Inverse.l0])
    | succ k1 =>
     have H := HA.out
     clear HA
     simp only [earshotref03_Inverse.l0] at H
     by_cases c6 : x5_1 < (l0.length : Int)
     ·rw [if_pos c6] at H
      have c6b0 := decide_eq_true c6
      clear c6
      by_cases c7 : 0 < (l0.length : Int)
      ·rw [if_pos c7] at H
       have c7b0 := decide_eq_true c7
       have c7b1 : decide (0 < l0.length) = true := decide_eq_true (by omega)
       clear c7
       have H' := Aside0.mk H
       clear H
       have p104 : 0 ≤ (0 : Int) := (by omega)
       have q104 : 0 < (l0.length : Int) := of_decide_eq_true tA
       obtain ⟨ad104, e104, hx104_0⟩ := Kd.at_int HR0.out 0 p104 q104
       cases e104
       have qi104 : (0 < l0.length) = True := eq_true (by omega)
       (try rw [show ((0 : Int)).toNat = 0 from rfl] at hx104_0)
       (try rw [Addr.add_zero'] at hx104_0)
       replace hx104_0 := (HB.out.cell (World.block_lt_of_cell? w _ hx104_0)).trans hx104_0
       replace p104 := eq_true p104
       replace q104 := eq_true q104
       go_wp2
       repeat (go_quiet (fail); try go_wp2)
       go_loopg [6, 7] k1 (fun kq v6 v7 w' => ∃ (x6_2 : Int) (x7_2 : Int), v6 = .int .i64 x6_2 ∧ v7 = .int .i64 x7_2 ∧ Aside0 (earshotref03_Inverse.l1 kq l0 (l0.length : Int) x4_1 x5_1 x6_2 x7_2 = some r) ∧ Aside0 (kq ≤ k1) ∧ Aside0 (Kd.R (Kd.int .i64) 3 w' w.heap.size (fun _ => True) v102 x4_1) ∧ Aside0 (Below w.heap.size w w'))
       case atStart => exact ⟨(wrap64 (16384 * (rd l0 0))), (1), (by first | rfl | (simp; done) | (simp only [i64_w]; done) | (simp [*]; done)), (by first | rfl | (simp; done) | (simp only [i64_w]; done) | (simp [*]; done)), H', ⟨Nat.le_refl _⟩, ⟨tR HO_4.out⟩, ⟨tB⟩⟩
       case round =>
        clear H'
        try clear p1
        try clear q1
        try clear hx1
        try clear qi1
        try clear c2
        try clear c2b0
        try clear c2b1
        try clear p2
        try clear c3
        try clear c3b0
        try clear c3b1
        try clear c6
        try clear c6b0
        try clear p6
        try clear c7
        try clear c7b0
        try clear c7b1
        try clear hx104_0
        try clear p104
        try clear p2
        try clear q104
        obtain ⟨x6_2, x7_2, rfl, rfl, HA, HK2, HO_4, HB⟩ := hrel
        cases gk with
        | zero => exact absurd HA.out (by simp [earshotref03_Inverse.l1])
        | succ k2 =>
         have H := HA.out
         clear HA
         simp only [earshotref03_Inverse.l1] at H
         by_cases c8 : x7_2 < (l0.length : Int)
         ·rw [if_pos c8] at H
          have c8b0 := decide_eq_true c8
          clear c8
          by_cases c9 : 0 ≤ x7_2
          ·rw [if_pos c9] at H
           have c9b0 := decide_eq_true c9
           clear c9
           by_cases c10 : x7_2 < (l0.length : Int)
           ·rw [if_pos c10] at H
            have c10b0 := decide_eq_true c10
            clear c10
            by_cases c11 : (l0.length : Int) = 0
            ·rw [if_pos c11] at H
             exact absurd H (by simp)
            ·rw [if_neg c11] at H
             have c11b0 : ((l0.length : Int) == 0) = false := beq_eq_false_iff_ne.mpr c11
             have c11b1 : ((l0.length : Int) != 0) = true := bne_iff_ne.mpr c11
             have c11b2 : ¬ (l0 = []) := fun h_ => c11 (by rw [h_]; rfl)
             replace H := Option.bind_eq_some_iff.mp H
             obtain ⟨t106, A120, H⟩ := H
             try dsimp only at H
             have A12 := Aside0.mk A120
             clear A120
             have A12z := Aside0.mk (by have z := A12.out; rw [wrap_quo64 _ c11] at z; exact z)
             clear A12
             have A12 := A12z
             clear A12z
             have H' := Aside0.mk H
             clear H
             have p105 : 0 ≤ (x7_2 : Int) := of_decide_eq_true tA
             have q105 : x7_2 < (l0.length : Int) := of_decide_eq_true tA
             obtain ⟨ad105, e105, hx105_0⟩ := Kd.at_int HR0.out x7_2 p105 q105
             obtain rfl : ad104 = ad105 := (by injection e105)
             replace hx105_0 := (HB.out.cell (World.block_lt_of_cell? w _ hx105_0)).trans hx105_0
             replace p105 := eq_true p105
             replace q105 := eq_true q105
             go_wp2_with (first | (go_at_call 48; (with_reducible refine (earshotref03_C.calls (wrap64 ((wrap64 ((wrap64 ((wrap64 (2 * x5_1)) + 1)) * x7_2)) * ((64 : Int) / (l0.length : Int)))) t106 _ ?side1 A12.out).mono ?_); (case side1 => exact tC (Kd.C_below HRT.out HB.out)); rintro e w' ⟨rfl, ⟨nd, rfl⟩⟩; (try first | exact ⟨rfl, _, World.drewN_drewN _ _ _⟩ | exact ⟨rfl, _, Eq.trans (World.drewN_drewN _ _ _) (congrArg (World.drewN _) (Nat.add_assoc _ _ _))⟩)))
             repeat (go_quiet (first | (go_at_call 48; (with_reducible refine (earshotref03_C.calls (wrap64 ((wrap64 ((wrap64 ((wrap64 (2 * x5_1)) + 1)) * x7_2)) * ((64 : Int) / (l0.length : Int)))) t106 _ ?side1 A12.out).mono ?_); (case side1 => exact tC (Kd.C_below HRT.out HB.out)); rintro e w' ⟨rfl, ⟨nd, rfl⟩⟩; (try first | exact ⟨rfl, _, World.drewN_drewN _ _ _⟩ | exact ⟨rfl, _, Eq.trans (World.drewN_drewN _ _ _) (congrArg (World.drewN _) (Nat.add_assoc _ _ _))⟩))); try go_wp2_with (first | (go_at_call 48; (with_reducible refine (earshotref03_C.calls (wrap64 ((wrap64 ((wrap64 ((wrap64 (2 * x5_1)) + 1)) * x7_2)) * ((64 : Int) / (l0.length : Int)))) t106 _ ?side1 A12.out).mono ?_); (case side1 => exact tC (Kd.C_below HRT.out HB.out)); rintro e w' ⟨rfl, ⟨nd, rfl⟩⟩; (try first | exact ⟨rfl, _, World.drewN_drewN _ _ _⟩ | exact ⟨rfl, _, Eq.trans (World.drewN_drewN _ _ _) (congrArg (World.drewN _) (Nat.add_assoc _ _ _))⟩))))
             go_roundg k2
             case measure => have := HK1.out; have := HK2.out; omega
             case rel => exact ⟨(wrap64 (x6_2 + (wrap64 ((wrap64 (2 * (rd l0 x7_2))) * t106)))), (wrap64 (x7_2 + 1)), (by first | rfl | (simp; done) | (simp only [i64_w]; done) | (simp [*]; done)), (by first | rfl | (simp; done) | (simp only [i64_w]; done) | (simp [*]; done)), H', ⟨by have := HK1.out; have := HK2.out; omega⟩, ⟨tR HO_4.out⟩, ⟨tB⟩⟩
           ·rw [if_neg c10] at H
            exact absurd H (by simp)
          ·rw [if_neg c9] at H
           exact absurd H (by simp)
         ·rw [if_neg c8] at H
          have c8b0 := decide_eq_false c8
          clear c8
          replace H := Option.bind_eq_some_iff.mp H
          obtain ⟨t107, A130, H⟩ := H
          try dsimp only at H
          have A13 := Aside0.mk A130
          clear A130
          by_cases c14 : 0 ≤ x5_1
          ·rw [if_pos c14] at H
           have c14b0 := decide_eq_true c14
           clear c14
           by_cases c15 : x5_1 < (x4_1.length : Int)
           ·rw [if_pos c15] at H
            have c15b0 := decide_eq_true c15
            clear c15
            obtain ⟨y108, hy108⟩ : ∃ y_ : List Int, y_ = (x4_1.set (x5_1 : Int).toNat t107) := ⟨_, rfl⟩
            replace H : (earshotref03_Inverse.l0 k2 l0 (l0.length : Int) y108 (wrap64 (x5_1 + 1))) = some r := by first | (rw [hy108]; with_reducible exact H) | (have H2_ := (Option.bind_some _ _).symm.trans H; rw [hy108]; with_reducible exact H2_) | (have H2_ := (Option.bind_some _ _).symm.trans H; with_reducible exact H2_) | with_reducible exact H | (rw [hy108]; exact H) | exact H
            have Ny108 := Aside0.mk hy108
            clear hy108
            have H' := Aside0.mk H
            clear H
            go_wp2_with (first | (go_at_call 83; (with_reducible refine (earshotref02_Round.calls k2 x6_2 (wrap64 ((l0.length : Int) * 268435456)) t107 _ A13.out).mono ?_); rintro e w' ⟨rfl, ⟨nd, rfl⟩⟩; (try first | exact ⟨rfl, _, World.drewN_drewN _ _ _⟩ | exact ⟨rfl, _, Eq.trans (World.drewN_drewN _ _ _) (congrArg (World.drewN _) (Nat.add_assoc _ _ _))⟩); have p16 : 0 ≤ (x5_1 : Int) := of_decide_eq_true tA; have q16 : (x5_1 : Int) < ((x4_1.length : Int) : Int) := of_decide_eq_true tA; obtain ⟨go16, co16, eo16, gb16, gl16, cl16, HG16⟩ := Kd.R_form HO_4.out (by omega); (first | cases eo16 | (injection eo16 with ea_ en_ ec_; (first | subst ea_ | (injection ea_ with ea_; subst ea_)); subst ec_; clear en_)); have GB16 := Aside0.mk gb16; have GG16 := Aside0.mk HG16; clear gb16 gl16 HG16; obtain ⟨hx16_0, hf16_0⟩ := Kd.R_celln 0 HO_4.out (x5_1 : Int) p16 q16; replace p16 := eq_true p16; replace q16 := eq_true q16; obtain ⟨hy17_, hz17_⟩ := Kd.R_celln 0 HO_4.out (x5_1 : Int) (of_decide_eq_true tA) (of_decide_eq_true tA); have HP17 := Kd.R_putg HO_4.out (x5_1 : Int) t107) | ((with_reducible refine gate_store (t := 3) (p := 49) rfl ?_); (try (rw [drewN_self wr]; generalize hq_ : World.drewN wr _ = wr; (try have hx16_0 := cell_at hq_ hx16_0); (try have hf16_0 := frozen_at hq_ hf16_0); have n0_ := Aside0.mk (Kd.R_at hq_ HO_4.out); have n1_ := Aside0.mk (below_at hq_ HB.out); clear hq_ HO_4 HB; have HO_4 := n0_; have HB := n1_; clear n0_ n1_; (try (obtain ⟨hy17_, hz17_⟩ := Kd.R_celln 0 HO_4.out (x5_1 : Int) (of_decide_eq_true tA) (of_decide_eq_true tA))); (try (have HP17 := Kd.R_putg HO_4.out (x5_1 : Int) t107)))); refine store_event (t := 3) (p := 49) (v := ?vo_w18) (w1 := (wr.setCell ⟨go16, (x5_1 : Int).toNat, none⟩ (.int .i64 t107))) ?hg ?ho ?hn ?hr ?_; (case ho => rfl); (case hg => rfl); (case hn => rfl); (case hr => first | (go_simp; done) | (go_simp; rfl)); intro w18 hw; have hg : wr.grownBy w18 (some go16) := (by rw [hw]; exact HP17.2); have hp_ : Kd.R (Kd.int .i64) 3 w18 w.heap.size (fun _ => True) (.slice (some ⟨go16, 0, none⟩) x4_1.length co16) y108 := (by rw [hw, Ny108.out]; exact HP17.1); clear HP17; have n0_ := Aside0.mk (hp_); have n1_ := Aside0.mk ((by rw [hw]; exact below_set (HB.out) GB16.out : Below w.heap.size w w18)); clear HO_4; clear HB; have HO_4 := n0_; have HB := n1_; clear n0_ n1_; clear hg hw hp_))
            repeat (go_quiet (first | (go_at_call 83; (with_reducible refine (earshotref02_Round.calls k2 x6_2 (wrap64 ((l0.length : Int) * 268435456)) t107 _ A13.out).mono ?_); rintro e w' ⟨rfl, ⟨nd, rfl⟩⟩; (try first | exact ⟨rfl, _, World.drewN_drewN _ _ _⟩ | exact ⟨rfl, _, Eq.trans (World.drewN_drewN _ _ _) (congrArg (World.drewN _) (Nat.add_assoc _ _ _))⟩); have p16 : 0 ≤ (x5_1 : Int) := of_decide_eq_true tA; have q16 : (x5_1 : Int) < ((x4_1.length : Int) : Int) := of_decide_eq_true tA; obtain ⟨go16, co16, eo16, gb16, gl16, cl16, HG16⟩ := Kd.R_form HO_4.out (by omega); (first | cases eo16 | (injection eo16 with ea_ en_ ec_; (first | subst ea_ | (injection ea_ with ea_; subst ea_)); subst ec_; clear en_)); have GB16 := Aside0.mk gb16; have GG16 := Aside0.mk HG16; clear gb16 gl16 HG16; obtain ⟨hx16_0, hf16_0⟩ := Kd.R_celln 0 HO_4.out (x5_1 : Int) p16 q16; replace p16 := eq_true p16; replace q16 := eq_true q16; obtain ⟨hy17_, hz17_⟩ := Kd.R_celln 0 HO_4.out (x5_1 : Int) (of_decide_eq_true tA) (of_decide_eq_true tA); have HP17 := Kd.R_putg HO_4.out (x5_1 : Int) t107) | ((with_reducible refine gate_store (t := 3) (p := 49) rfl ?_); (try (rw [drewN_self wr]; generalize hq_ : World.drewN wr _ = wr; (try have hx16_0 := cell_at hq_ hx16_0); (try have hf16_0 := frozen_at hq_ hf16_0); have n0_ := Aside0.mk (Kd.R_at hq_ HO_4.out); have n1_ := Aside0.mk (below_at hq_ HB.out); clear hq_ HO_4 HB; have HO_4 := n0_; have HB := n1_; clear n0_ n1_; (try (obtain ⟨hy17_, hz17_⟩ := Kd.R_celln 0 HO_4.out (x5_1 : Int) (of_decide_eq_true tA) (of_decide_eq_true tA))); (try (have HP17 := Kd.R_putg HO_4.out (x5_1 : Int) t107)))); refine store_event (t := 3) (p := 49) (v := ?vo_w18) (w1 := (wr.setCell ⟨go16, (x5_1 : Int).toNat, none⟩ (.int .i64 t107))) ?hg ?ho ?hn ?hr ?_; (case ho => rfl); (case hg => rfl); (case hn => rfl); (case hr => first | (go_simp; done) | (go_simp; rfl)); intro w18 hw; have hg : wr.grownBy w18 (some go16) := (by rw [hw]; exact HP17.2); have hp_ : Kd.R (Kd.int .i64) 3 w18 w.heap.size (fun _ => True) (.slice (some ⟨go16, 0, none⟩) x4_1.length co16) y108 := (by rw [hw, Ny108.out]; exact HP17.1); clear HP17; have n0_ := Aside0.mk (hp_); have n1_ := Aside0.mk ((by rw [hw]; exact below_set (HB.out) GB16.out : Below w.heap.size w w18)); clear HO_4; clear HB; have HO_4 := n0_; have HB := n1_; clear n0_ n1_; clear hg hw hp_)); try go_wp2_with (first | (go_at_call 83; (with_reducible refine (earshotref02_Round.calls k2 x6_2 (wrap64 ((l0.length : Int) * 268435456)) t107 _ A13.out).mono ?_); rintro e w' ⟨rfl, ⟨nd, rfl⟩⟩; (try first | exact ⟨rfl, _, World.drewN_drewN _ _ _⟩ | exact ⟨rfl, _, Eq.trans (World.drewN_drewN _ _ _) (congrArg (World.drewN _) (Nat.add_assoc _ _ _))⟩); have p16 : 0 ≤ (x5_1 : Int) := of_decide_eq_true tA; have q16 : (x5_1 : Int) < ((x4_1.length : Int) : Int) := of_decide_eq_true tA; obtain ⟨go16, co16, eo16, gb16, gl16, cl16, HG16⟩ := Kd.R_form HO_4.out (by omega); (first | cases eo16 | (injection eo16 with ea_ en_ ec_; (first | subst ea_ | (injection ea_ with ea_; subst ea_)); subst ec_; clear en_)); have GB16 := Aside0.mk gb16; have GG16 := Aside0.mk HG16; clear gb16 gl16 HG16; obtain ⟨hx16_0, hf16_0⟩ := Kd.R_celln 0 HO_4.out (x5_1 : Int) p16 q16; replace p16 := eq_true p16; replace q16 := eq_true q16; obtain ⟨hy17_, hz17_⟩ := Kd.R_celln 0 HO_4.out (x5_1 : Int) (of_decide_eq_true tA) (of_decide_eq_true tA); have HP17 := Kd.R_putg HO_4.out (x5_1 : Int) t107) | ((with_reducible refine gate_store (t := 3) (p := 49) rfl ?_); (try (rw [drewN_self wr]; generalize hq_ : World.drewN wr _ = wr; (try have hx16_0 := cell_at hq_ hx16_0); (try have hf16_0 := frozen_at hq_ hf16_0); have n0_ := Aside0.mk (Kd.R_at hq_ HO_4.out); have n1_ := Aside0.mk (below_at hq_ HB.out); clear hq_ HO_4 HB; have HO_4 := n0_; have HB := n1_; clear n0_ n1_; (try (obtain ⟨hy17_, hz17_⟩ := Kd.R_celln 0 HO_4.out (x5_1 : Int) (of_decide_eq_true tA) (of_decide_eq_true tA))); (try (have HP17 := Kd.R_putg HO_4.out (x5_1 : Int) t107)))); refine store_event (t := 3) (p := 49) (v := ?vo_w18) (w1 := (wr.setCell ⟨go16, (x5_1 : Int).toNat, none⟩ (.int .i64 t107))) ?hg ?ho ?hn ?hr ?_; (case ho => rfl); (case hg => rfl); (case hn => rfl); (case hr => first | (go_simp; done) | (go_simp; rfl)); intro w18 hw; have hg : wr.grownBy w18 (some go16) := (by rw [hw]; exact HP17.2); have hp_ : Kd.R (Kd.int .i64) 3 w18 w.heap.size (fun _ => True) (.slice (some ⟨go16, 0, none⟩) x4_1.length co16) y108 := (by rw [hw, Ny108.out]; exact HP17.1); clear HP17; have n0_ := Aside0.mk (hp_); have n1_ := Aside0.mk ((by rw [hw]; exact below_set (HB.out) GB16.out : Below w.heap.size w w18)); clear HO_4; clear HB; have HO_4 := n0_; have HB := n1_; clear n0_ n1_; clear hg hw hp_)))
            go_roundg k2
            case measure => have := HK1.out; have := HK2.out; omega
            case rel => exact ⟨(y108), (wrap64 (x5_1 + 1)), (by first | rfl | (simp; done) | (simp only [i64_w]; done) | (simp [*]; done)), H', ⟨by have := HK1.out; have := HK2.out; omega⟩, ⟨tR HO_4.out⟩, ⟨tB⟩⟩
           ·rw [if_neg c15] at H
            exact absurd H (by simp)
          ·rw [if_neg c14] at H
           exact absurd H (by simp)
      ·rw [if_neg c7] at H
       exact absurd H (by simp)
     ·rw [if_neg c6] at H
      have c6b0 := decide_eq_false c6
      clear c6
      obtain rfl := Option.some.inj H
      go_wp2
      repeat (go_quiet (fail); try go_wp2)
      go_ret
      exact ⟨_, by first | rfl | (simp [errW_none, errW_some] <;> rfl) | (simp [*, errW_none, errW_some] <;> rfl), tR HO_4.out, tB⟩
  ·rw [if_neg c3] at H
   exact absurd H (by simp)
 ·rw [if_neg c2] at H
  exact absurd H (by simp)

end Go.Proofs.YtdlbmbijobcljaaDoor.X

namespace Go.Proofs.YtdlbmbijobcljaaDoor.Pure
open Go.RowKit Go.Proofs.YtdlbmbijobcljaaDoor.X Go.Proofs.YtdlbmbijobcljaaDoorW.PrintWords Go.Proofs.YtdlbmbijobcljaaDoorW.PrintLast
set_option linter.unusedVariables false
set_option linter.unusedSimpArgs false
set_option linter.unusedSectionVars false
/-- The sum of row i of the inverse transform, its first m + 1 terms; q = 64/n. -/
def invSum (l : List Int) (q : Int) (i : Nat) : Nat → Int
  | 0 => 16384 * rd l 0
  | m + 1 => invSum l q i m + 2 * rd l ((m + 1 : Nat) : Int) * cosv ((2 * (i : Int) + 1) * ((m + 1 : Nat) : Int) * q)
theorem mul_bound (a b A B : Int) (ha0 : -A ≤ a) (ha1 : a ≤ A) (hb0 : -B ≤ b) (hb1 : b ≤ B) : -(A * B) ≤ a * b ∧ a * b ≤ A * B := by
  have hA : 0 ≤ A := by omega
  have hB : 0 ≤ B := by omega
  have h1 : 0 ≤ (A - a) * (B - b) := Int.mul_nonneg (by omega) (by omega)
  have h2 : 0 ≤ (A + a) * (B + b) := Int.mul_nonneg (by omega) (by omega)
  have h3 : 0 ≤ (A - a) * (B + b) := Int.mul_nonneg (by omega) (by omega)
  have h4 : 0 ≤ (A + a) * (B - b) := Int.mul_nonneg (by omega) (by omega)
  simp only [Int.sub_mul, Int.add_mul, Int.mul_sub, Int.mul_add] at h1 h2 h3 h4
  omega
theorem rd_bound (l : List Int) (B : Int) (hB : 0 ≤ B) (h : ∀ x ∈ l, -B ≤ x ∧ x ≤ B) (i : Int) : -B ≤ rd l i ∧ rd l i ≤ B := by
  unfold rd
  rw [List.getD_eq_getElem?_getD]
  rcases Nat.lt_or_ge i.toNat l.length with hl | hl
  · rw [List.getElem?_eq_getElem hl]; exact h _ (List.getElem_mem hl)
  · rw [List.getElem?_eq_none hl]; simp; omega
theorem invSum_bound (l : List Int) (h : ∀ x ∈ l, -1099511627776 ≤ x ∧ x ≤ 1099511627776) (q : Int) (i m : Nat) : -(18014398509481984 + 36028797018963968 * (m : Int)) ≤ invSum l q i m ∧ invSum l q i m ≤ 18014398509481984 + 36028797018963968 * (m : Int) := by
  induction m with
  | zero =>
    have := rd_bound l 1099511627776 (by omega) h 0
    simp only [invSum]
    omega
  | succ m ih =>
    have h1 := rd_bound l 1099511627776 (by omega) h ((m + 1 : Nat) : Int)
    have h2 := cosv_range ((2 * (i : Int) + 1) * ((m + 1 : Nat) : Int) * q)
    have h3 := mul_bound (2 * rd l ((m + 1 : Nat) : Int)) (cosv ((2 * (i : Int) + 1) * ((m + 1 : Nat) : Int) * q)) 2199023255552 16384 (by omega) (by omega) h2.1 h2.2
    simp only [invSum]
    omega
/-- The index of the cosine, as the program and as the document have it. -/
theorem inv_index (n i m : Nat) (q : Int) (hn : 0 < n) (hq : (n : Int) * q = 64) (hn64 : n ≤ 64) (hi : i < n) (hm : m < n) :
    (if (n : Int) = 0 then (none : Option Int) else feature_cosine.f (wrap64 (Int.tdiv (wrap64 ((wrap64 ((wrap64 ((wrap64 (2 * (i : Int))) + 1)) * (m : Int))) * 64)) (n : Int)))) = some (cosv ((2 * (i : Int) + 1) * (m : Int) * q)) := by
  have h0 : 0 ≤ (2 * (i : Int) + 1) * (m : Int) := Int.mul_nonneg (by omega) (by omega)
  have h1 : (2 * (i : Int) + 1) * (m : Int) ≤ 129 * 64 := by
    have := mul_bound (2 * (i : Int) + 1) (m : Int) 129 64 (by omega) (by omega) (by omega) (by omega)
    omega
  have hq0 : 0 < q := by
    by_cases hq1 : 0 < q
    · exact hq1
    · have : (n : Int) * q ≤ (n : Int) * 0 := Int.mul_le_mul_of_nonneg_left (by omega) (by omega)
      omega
  have hq64 : q ≤ 64 := by
    have : 1 * q ≤ (n : Int) * q := Int.mul_le_mul_of_nonneg_right (by omega) (by omega)
    omega
  have h2 := mul_bound ((2 * (i : Int) + 1) * (m : Int)) q (129 * 64) 64 (by omega) (by omega) (by omega) (by omega)
  have h3 : 0 ≤ (2 * (i : Int) + 1) * (m : Int) * q := Int.mul_nonneg h0 (by omega)
  rw [if_neg (by omega), w64 (n := 2 * (i : Int)) (by omega) (by omega), w64 (n := 2 * (i : Int) + 1) (by omega) (by omega), w64 (n := (2 * (i : Int) + 1) * (m : Int)) (by omega) (by omega), w64 (n := (2 * (i : Int) + 1) * (m : Int) * 64) (by omega) (by omega)]
  have e : (2 * (i : Int) + 1) * (m : Int) * 64 = (n : Int) * ((2 * (i : Int) + 1) * (m : Int) * q) := by
    rw [← hq, Int.mul_left_comm]
  rw [e, Int.mul_tdiv_cancel_left _ (by omega : (n : Int) ≠ 0), w64 (by omega) (by omega)]
  unfold feature_cosine.f
  rw [if_pos h3]
theorem inv_index' (n i m : Nat) (q : Int) (hn : 0 < n) (hq0 : 0 < q) (hq64 : q ≤ 64) (hn64 : n ≤ 64) (hi : i < n) (hm : m < n) :
    earshotref03_C.f (wrap64 ((wrap64 ((wrap64 ((wrap64 (2 * (i : Int))) + 1)) * (m : Int))) * (wrap64 q))) = some (cosv ((2 * (i : Int) + 1) * (m : Int) * q)) := by
  have h0 : 0 ≤ (2 * (i : Int) + 1) * (m : Int) := Int.mul_nonneg (by omega) (by omega)
  have h1 := mul_bound (2 * (i : Int) + 1) (m : Int) 129 64 (by omega) (by omega) (by omega) (by omega)
  have h2 := mul_bound ((2 * (i : Int) + 1) * (m : Int)) q (129 * 64) 64 (by omega) (by omega) (by omega) (by omega)
  have h3 : 0 ≤ (2 * (i : Int) + 1) * (m : Int) * q := Int.mul_nonneg h0 (by omega)
  rw [w64 (n := 2 * (i : Int)) (by omega) (by omega), w64 (n := 2 * (i : Int) + 1) (by omega) (by omega), w64 (n := (2 * (i : Int) + 1) * (m : Int)) (by omega) (by omega), w64 (n := q) (by omega) (by omega), w64 (by omega) (by omega)]
  unfold earshotref03_C.f
  rw [if_pos h3]
/-- The inverse transform. -/
def invAt (l : List Int) (n : Nat) (i : Nat) : Int := rnd (invSum l ((64 : Int) / n) i (n - 1)) ((n : Int) * 268435456)
def invList (l : List Int) (n : Nat) (i : Nat) : List Int := (List.range i).map (invAt l n) ++ List.replicate (n - i) 0
theorem invList_length (l : List Int) (n i : Nat) (h : i ≤ n) : (invList l n i).length = n := by simp [invList]; omega
theorem invList_set (l : List Int) (n i : Nat) (h : i < n) : (invList l n i).set i (invAt l n i) = invList l n (i + 1) := by
  unfold invList
  rw [List.range_succ, List.map_append, List.set_append_right _ _ (by simp)]
  simp only [List.length_map, List.length_range, Nat.sub_self, List.map_cons, List.map_nil, List.append_assoc]
  congr 1
  rw [show n - i = (n - (i + 1)) + 1 by omega, List.replicate_succ]
  rfl
section
variable (l : List Int) (n : Nat) (hn : isLen n = true) (hl : l.length = n) (h : ∀ x ∈ l, -1099511627776 ≤ x ∧ x ≤ 1099511627776)
include hn hl h
theorem inv_last (i : Nat) (hi : i < n) (y : List Int) (hy : y.length = n) (R : List Int × Int) (hR : Ev (fun k => feature_Inverse.l0 k l (n : Int) (y.set i (invAt l n i)) (n : Int) ((i + 1 : Nat) : Int)) R) :
    Ev (fun k => (feature_far.f k (invSum l ((64 : Int) / n) i (n - 1)) (wrap64 ((n : Int) * 268435456))).bind fun t109 => (if 0 ≤ (i : Int) then (if (i : Int) < (y.length : Int) then (feature_Inverse.l0 k l (n : Int) (y.set (i : Int).toNat t109) (n : Int) (wrap64 ((i : Int) + 1))) else (none)) else (none))) R := by
  obtain ⟨n0, n1, _⟩ := isLen_dvd n hn
  have hb := invSum_bound l h ((64 : Int) / n) i (n - 1)
  rw [w64 (by omega) (by omega)]
  refine Ev.bind (far_ev _ _ (by omega) (by omega) (by omega) (by omega)) ?_
  refine Ev.congr (fun k => ?_) hR
  rw [if_pos (by omega), if_pos (by omega), w64 (by omega) (by omega), Int.toNat_natCast]
  rfl
theorem inv_row (i : Nat) (hi : i < n) (y : List Int) (hy : y.length = n) (R : List Int × Int) (hR : Ev (fun k => feature_Inverse.l0 k l (n : Int) (y.set i (invAt l n i)) (n : Int) ((i + 1 : Nat) : Int)) R) :
    ∀ r m : Nat, m + r + 1 = n → Ev (fun k => feature_Inverse.l1 k l (n : Int) y (i : Int) (invSum l ((64 : Int) / n) i m) ((m + 1 : Nat) : Int) (n : Int) (i : Int)) R := by
  obtain ⟨n0, n1, n2, n3, n4⟩ := isLen_dvd n hn
  intro r
  induction r with
  | zero =>
    intro m hm
    have := inv_last l n hn hl h i hi y hy R hR
    rw [show n - 1 = m by omega] at this
    refine Ev.step (fun k => ?_) this
    simp only [feature_Inverse.l1]
    rw [if_neg (by omega)]
  | succ r ih =>
    intro m hm
    have := ih (m + 1) (by omega)
    refine Ev.step (fun k => ?_) this
    simp only [feature_Inverse.l1]
    rw [if_pos (by omega), if_pos (by omega), if_pos (by omega)]
    have hx := inv_index n i (m + 1) ((64 : Int) / n) n0 n2 n1 hi (by omega)
    rw [if_neg (by omega)] at hx
    rw [if_neg (by omega), hx, Option.bind_some]
    have hb := invSum_bound l h ((64 : Int) / n) i (m + 1)
    have h1 := rd_bound l 1099511627776 (by omega) h ((m + 1 : Nat) : Int)
    have h2 := cosv_range ((2 * (i : Int) + 1) * ((m + 1 : Nat) : Int) * ((64 : Int) / n))
    have h3 := mul_bound (2 * rd l ((m + 1 : Nat) : Int)) (cosv ((2 * (i : Int) + 1) * ((m + 1 : Nat) : Int) * ((64 : Int) / n))) 2199023255552 16384 (by omega) (by omega) h2.1 h2.2
    rw [w64 (n := 2 * rd l ((m + 1 : Nat) : Int)) (by omega) (by omega), w64 (n := 2 * rd l ((m + 1 : Nat) : Int) * _) (by omega) (by omega)]
    have e : invSum l ((64 : Int) / n) i m + 2 * rd l ((m + 1 : Nat) : Int) * cosv ((2 * (i : Int) + 1) * ((m + 1 : Nat) : Int) * ((64 : Int) / n)) = invSum l ((64 : Int) / n) i (m + 1) := rfl
    rw [e, w64 (by omega) (by omega), w64 (by omega) (by omega), show ((m + 1 : Nat) : Int) + 1 = ((m + 1 + 1 : Nat) : Int) by omega]
theorem inv_loop : ∀ r i : Nat, i + r = n → Ev (fun k => feature_Inverse.l0 k l (n : Int) (invList l n i) (n : Int) (i : Int)) (invList l n n, 0) := by
  obtain ⟨n0, n1, n2, n3, n4⟩ := isLen_dvd n hn
  intro r
  induction r with
  | zero =>
    intro i hi
    refine Ev.step (f := fun _ => some (invList l n n, 0)) (fun k => ?_) (Ev.now _)
    simp only [feature_Inverse.l0]
    rw [if_neg (by omega), show i = n by omega]
  | succ r ih =>
    intro i hi
    have h1 := ih (i + 1) (by omega)
    rw [← invList_set l n i (by omega)] at h1
    have h2 := inv_row l n hn hl h i (by omega) (invList l n i) (invList_length l n i (by omega)) _ h1 (n - 1) 0 (by omega)
    have hb := rd_bound l 1099511627776 (by omega) h 0
    refine Ev.step (fun k => ?_) h2
    simp only [feature_Inverse.l0]
    rw [if_pos (by omega), if_pos (by omega), w64 (n := 16384 * rd l 0) (by omega) (by omega)]
    rfl
theorem inv_last' (i : Nat) (hi : i < n) (y : List Int) (hy : y.length = n) (R : List Int) (hR : Ev (fun k => earshotref03_Inverse.l0 k l (n : Int) (y.set i (invAt l n i)) ((i + 1 : Nat) : Int)) R) :
    Ev (fun k => (earshotref02_Round.f k (invSum l ((64 : Int) / n) i (n - 1)) (wrap64 ((n : Int) * 268435456))).bind fun t107 => (if 0 ≤ (i : Int) then (if (i : Int) < (y.length : Int) then (earshotref03_Inverse.l0 k l (n : Int) (y.set (i : Int).toNat t107) (wrap64 ((i : Int) + 1))) else (none)) else (none))) R := by
  obtain ⟨n0, n1, _⟩ := isLen_dvd n hn
  have hb := invSum_bound l h ((64 : Int) / n) i (n - 1)
  rw [w64 (by omega) (by omega)]
  refine Ev.bind (round_ev _ _ (by omega) (by omega) (by omega) (by omega) (by omega) (by omega)) ?_
  refine Ev.congr (fun k => ?_) hR
  rw [if_pos (by omega), if_pos (by omega), w64 (by omega) (by omega), Int.toNat_natCast]
  rfl
theorem inv_row' (i : Nat) (hi : i < n) (y : List Int) (hy : y.length = n) (R : List Int) (hR : Ev (fun k => earshotref03_Inverse.l0 k l (n : Int) (y.set i (invAt l n i)) ((i + 1 : Nat) : Int)) R) :
    ∀ r m : Nat, m + r + 1 = n → Ev (fun k => earshotref03_Inverse.l1 k l (n : Int) y (i : Int) (invSum l ((64 : Int) / n) i m) ((m + 1 : Nat) : Int)) R := by
  obtain ⟨n0, n1, n2, n3, n4⟩ := isLen_dvd n hn
  intro r
  induction r with
  | zero =>
    intro m hm
    have := inv_last' l n hn hl h i hi y hy R hR
    rw [show n - 1 = m by omega] at this
    refine Ev.step (fun k => ?_) this
    simp only [earshotref03_Inverse.l1]
    rw [if_neg (by omega)]
  | succ r ih =>
    intro m hm
    have := ih (m + 1) (by omega)
    refine Ev.step (fun k => ?_) this
    simp only [earshotref03_Inverse.l1]
    rw [if_pos (by omega), if_pos (by omega), if_pos (by omega)]
    have hx := inv_index' n i (m + 1) ((64 : Int) / n) n0 (by omega) n4 n1 hi (by omega)
    rw [if_neg (by omega), hx, Option.bind_some]
    have hb := invSum_bound l h ((64 : Int) / n) i (m + 1)
    have h1 := rd_bound l 1099511627776 (by omega) h ((m + 1 : Nat) : Int)
    have h2 := cosv_range ((2 * (i : Int) + 1) * ((m + 1 : Nat) : Int) * ((64 : Int) / n))
    have h3 := mul_bound (2 * rd l ((m + 1 : Nat) : Int)) (cosv ((2 * (i : Int) + 1) * ((m + 1 : Nat) : Int) * ((64 : Int) / n))) 2199023255552 16384 (by omega) (by omega) h2.1 h2.2
    rw [w64 (n := 2 * rd l ((m + 1 : Nat) : Int)) (by omega) (by omega), w64 (n := 2 * rd l ((m + 1 : Nat) : Int) * _) (by omega) (by omega)]
    have e : invSum l ((64 : Int) / n) i m + 2 * rd l ((m + 1 : Nat) : Int) * cosv ((2 * (i : Int) + 1) * ((m + 1 : Nat) : Int) * ((64 : Int) / n)) = invSum l ((64 : Int) / n) i (m + 1) := rfl
    rw [e, w64 (by omega) (by omega), w64 (by omega) (by omega), show ((m + 1 : Nat) : Int) + 1 = ((m + 1 + 1 : Nat) : Int) by omega]
theorem inv_loop' : ∀ r i : Nat, i + r = n → Ev (fun k => earshotref03_Inverse.l0 k l (n : Int) (invList l n i) (i : Int)) (invList l n n) := by
  obtain ⟨n0, n1, n2, n3, n4⟩ := isLen_dvd n hn
  intro r
  induction r with
  | zero =>
    intro i hi
    refine Ev.step (f := fun _ => some (invList l n n)) (fun k => ?_) (Ev.now _)
    simp only [earshotref03_Inverse.l0]
    rw [if_neg (by omega), show i = n by omega]
  | succ r ih =>
    intro i hi
    have h1 := ih (i + 1) (by omega)
    rw [← invList_set l n i (by omega)] at h1
    have h2 := inv_row' l n hn hl h i (by omega) (invList l n i) (invList_length l n i (by omega)) _ h1 (n - 1) 0 (by omega)
    have hb := rd_bound l 1099511627776 (by omega) h 0
    refine Ev.step (fun k => ?_) h2
    simp only [earshotref03_Inverse.l0]
    rw [if_pos (by omega), if_pos (by omega), w64 (n := 16384 * rd l 0) (by omega) (by omega)]
    rfl
theorem ref_inverse_ev : Ev (fun k => earshotref03_Inverse.f k l) (invList l n n) := by
  obtain ⟨n0, n1, n2, n3, n4⟩ := isLen_dvd n hn
  refine Ev.congr (fun k => ?_) (inv_loop' l n hn hl h n 0 (by omega))
  unfold earshotref03_Inverse.f
  rw [if_pos (by omega), if_pos (by omega), hl, Int.toNat_natCast]
  rfl
theorem inverse_ok : Ev (fun k => feature_Inverse.f k l) (invList l n n, 0) := by
  obtain ⟨n0, n1, n2, n3, n4⟩ := isLen_dvd n hn
  have hin : allIn l (-1099511627776) 1099511627776 = true := by
    unfold allIn
    rw [List.all_eq_true]
    intro x hx
    have := h x hx
    simp; omega
  have h1 := inv_loop l n hn hl h n 0 (by omega)
  have h2 : Ev (fun k => feature_Inverse.j0 k l (n : Int) false) (invList l n n, 0) := by
    refine Ev.step (fun k => ?_) h1
    simp only [feature_Inverse.j0]
    rw [if_neg (by simp), if_pos (by omega), if_pos (by omega), Option.bind_some, List.length_replicate, Int.toNat_natCast]
    rfl
  refine Ev.congr (fun k => ?_) h2
  unfold feature_Inverse.f
  rw [hl, possible_at, hn, Option.bind_some, if_pos rfl, within_at _ _ (by omega) (by omega), hin, Option.bind_some]
  rfl
end
theorem inverse_bad (l : List Int) (h : isLen l.length = false ∨ allIn l (-1099511627776) 1099511627776 = false) : Ev (fun k => feature_Inverse.f k l) ([], 2) := by
  have h2 : ∀ n, Ev (fun k => feature_Inverse.j0 k l n true) ([], 2) := fun n => Ev.step (f := fun _ => some ([], 2)) (fun k => by simp only [feature_Inverse.j0]; rw [if_pos trivial]) (Ev.now _)
  refine Ev.congr (fun k => ?_) (h2 (l.length : Int))
  unfold feature_Inverse.f
  rw [possible_at, Option.bind_some]
  cases hp : isLen l.length with
  | false => rw [if_neg (by simp)]
  | true =>
    rcases h with h | h
    · rw [hp] at h; cases h
    · rw [if_pos rfl, within_at _ _ (by omega) (by omega), h, Option.bind_some]
      rfl
theorem allIn_iff (l : List Int) (a b : Int) : allIn l a b = true ↔ ∀ x ∈ l, a ≤ x ∧ x ≤ b := by
  unfold allIn
  rw [List.all_eq_true]
  exact ⟨fun h x hx => by have := h x hx; simp at this; exact this, fun h x hx => by have := h x hx; simp; exact this⟩
end Go.Proofs.YtdlbmbijobcljaaDoor.Pure

namespace Go.Proofs.YtdlbmbijobcljaaDoor.X
open Go.RowKit Go.Proofs.YtdlbmbijobcljaaDoorW.PrintWords Go.Proofs.YtdlbmbijobcljaaDoorW.PrintLast Go.Proofs.YtdlbmbijobcljaaDoorW.PrintMore
attribute [local go_sem] max2_int min2_int max_two min_two max_three min_three max_four min_four   -- for this text's walks alone
set_option linter.unusedVariables false
set_option linter.unusedSimpArgs false
/-! ### earshotref03_Transform: function 53 -/
mutual
def earshotref03_Transform.l0 : Nat → List Int → Int → List Int → Int → Option (List Int)
 | 0, _, _, _, _ => none
 | k + 1, x0, x3, x4, x5 => if x5 < x3 then (earshotref03_Transform.l1 k x0 x3 x4 x5 0) else (some x4)
def earshotref03_Transform.l1 : Nat → List Int → Int → List Int → Int → Int → Option (List Int)
 | 0, _, _, _, _, _ => none
 | k + 1, x0, x3, x4, x5, x6 => if x6 < x3 then (if 0 ≤ x5 then (if x5 < (x4.length : Int) then (if 0 ≤ x6 then (if x6 < (x0.length : Int) then (if x3 = 0 then (none) else ((earshotref03_C.f (wrap64 ((wrap64 ((wrap64 ((wrap64 (2 * x6)) + 1)) * x5)) * (wrap64 ((64 : Int) / x3))))).bind fun t106 => (earshotref03_Transform.l1 k x0 x3 (x4.set (x5 : Int).toNat (wrap64 ((rd x4 x5) + (wrap64 ((rd x0 x6) * t106))))) x5 (wrap64 (x6 + 1))))) else (none)) else (none)) else (none)) else (none)) else (earshotref03_Transform.l0 k x0 x3 x4 (wrap64 (x5 + 1)))
end
def earshotref03_Transform.f (k : Nat) (l0 : List Int) : Option (List Int) := if 0 ≤ (l0.length : Int) then (if ((l0.length : Int) : Int).toNat ≤ 35184372088832 then (earshotref03_Transform.l0 k l0 (l0.length : Int) (List.replicate ((l0.length : Int) : Int).toNat 0) 0) else (none)) else (none)
theorem earshotref03_Transform.mono_l : ∀ k, (∀ y0 y1 y2 y3, LeO (earshotref03_Transform.l0 k y0 y1 y2 y3) (earshotref03_Transform.l0 (k + 1) y0 y1 y2 y3)) ∧ (∀ y0 y1 y2 y3 y4, LeO (earshotref03_Transform.l1 k y0 y1 y2 y3 y4) (earshotref03_Transform.l1 (k + 1) y0 y1 y2 y3 y4))
 | 0 => ⟨fun _ _ _ _ r h => by simp [earshotref03_Transform.l0] at h, fun _ _ _ _ _ r h => by simp [earshotref03_Transform.l1] at h⟩
 | k + 1 => by
  obtain ⟨ih0, ih1⟩ := earshotref03_Transform.mono_l k
  refine ⟨?_, ?_⟩
  ·intro y0 y1 y2 y3
   unfold earshotref03_Transform.l0
   repeat' first
   | (with_reducible exact ih0 _ _ _ _)
   | (with_reducible exact ih1 _ _ _ _ _)
   | (with_reducible exact LeO.refl _)
   | (with_reducible exact LeO.none _)
   | (with_reducible refine LeO.ite ?_ ?_)
   | (with_reducible refine LeO.bind ?_ (fun _ => ?_))
   | exact ih0 _ _ _ _
   | exact ih1 _ _ _ _ _
   | exact LeO.none _
   | refine LeO.ite ?_ ?_
   | refine LeO.bind ?_ (fun _ => ?_)
  ·intro y0 y1 y2 y3 y4
   unfold earshotref03_Transform.l1
   repeat' first
   | (with_reducible exact ih0 _ _ _ _)
   | (with_reducible exact ih1 _ _ _ _ _)
   | (with_reducible exact LeO.refl _)
   | (with_reducible exact LeO.none _)
   | (with_reducible refine LeO.ite ?_ ?_)
   | (with_reducible refine LeO.bind ?_ (fun _ => ?_))
   | exact ih0 _ _ _ _
   | exact ih1 _ _ _ _ _
   | exact LeO.none _
   | refine LeO.ite ?_ ?_
   | refine LeO.bind ?_ (fun _ => ?_)
theorem earshotref03_Transform.mono : ∀ a0 k, LeO (earshotref03_Transform.f k a0) (earshotref03_Transform.f (k + 1) a0) := by
 intro a0 k
 obtain ⟨ih0, ih1⟩ := earshotref03_Transform.mono_l k
 unfold earshotref03_Transform.f
 repeat' first
   | (with_reducible exact ih0 _ _ _ _)
   | (with_reducible exact ih1 _ _ _ _ _)
   | (with_reducible exact LeO.refl _)
   | (with_reducible exact LeO.none _)
   | (with_reducible refine LeO.ite ?_ ?_)
   | (with_reducible refine LeO.bind ?_ (fun _ => ?_))
   | exact ih0 _ _ _ _
   | exact ih1 _ _ _ _ _
   | exact LeO.none _
   | refine LeO.ite ?_ ?_
   | refine LeO.bind ?_ (fun _ => ?_)
def earshotref03_Transform.T9 : Bool × List (List Nat × List Nat) := (true, [([], []), ([], []), ([], []), ([], []), ([2, 3], [2, 3]), ([4], [4]), ([], []), ([], []), ([6, 7], [6, 7]), ([8], [8]), ([], []), ([10], [10]), ([11], [11]), ([], []), ([12, 13], [12, 13]), ([], []), ([15], [15]), ([14, 16], [14, 16]), ([17], [17]), ([9, 18], [9, 18]), ([5, 19], [5, 19]), ([0, 1, 0, 1, 2, 3, 4, 5, 6, 7, 8, 9, 10, 11, 12, 13, 14, 15, 16, 17, 18, 19, 20], [0, 1]), ([21, 20, 18, 0, 1, 2, 3, 4, 5, 6, 7, 8, 9, 10, 11, 12, 13, 14, 15, 16, 17, 18, 19, 20], [20, 21])])
def earshotref03_Transform.B9 : List Nat := [0, 0, 0, 0, 12, 28, 0, 0, 192, 448, 0, 1024, 3072, 0, 15360, 0, 32768, 130048, 261120, 524224, 1048572, 2097151, 4194303]
theorem earshotref03_Transform.tab9 : rtab .any (opsOf Tryd.f53 9) = earshotref03_Transform.T9 := by kernel_rfl
theorem earshotref03_Transform.bits9 : waitsOk earshotref03_Transform.T9.2 earshotref03_Transform.B9 = true := by kernel_rfl
set_option maxHeartbeats 8000000 in
set_option maxRecDepth 100000 in
theorem earshotref03_Transform.calls (k : Nat) (A0 : Option Addr) (c0 : Nat) (l0 : List Int) (r : List Int) (w : World) (ht : Kd.C (Kd.int .i64) w (some ⟨0, 0, none⟩) 65 tabL) (hr0 : Kd.C (Kd.int .i64) w A0 l0.length l0) (hc0 : l0.length ≤ c0) (h : earshotref03_Transform.f k l0 = some r) :
  Calls Tryd.prog 53 #[.slice A0 l0.length c0] w fun e w' => ∃ v0_ : Value, e = .returned (v0_) ∧ Kd.R (Kd.int .i64) 3 w' w.heap.size (fun _ => True) v0_ r ∧ Below w.heap.size w w' := by
 have HRT := Aside0.mk ht
 clear ht
 have HR0 := Aside0.mk hr0
 have HC0 := Aside0.mk hc0
 clear hr0 hc0
 have HB := Aside0.mk (Below.refl w.heap.size w)
 have H : (if 0 ≤ (l0.length : Int) then (if ((l0.length : Int) : Int).toNat ≤ 35184372088832 then (earshotref03_Transform.l0 k l0 (l0.length : Int) (List.replicate ((l0.length : Int) : Int).toNat 0) 0) else (none)) else (none)) = some r := h
 clear h
 by_cases c2 : 0 ≤ (l0.length : Int)
 ·rw [if_pos c2] at H
  have c2b0 := eq_true c2
  have c2b1 := decide_eq_true c2
  clear c2
  by_cases c3 : ((l0.length : Int) : Int).toNat ≤ 35184372088832
  ·rw [if_pos c3] at H
   have c3b0 := eq_true c3
   have c3b1 := decide_eq_true c3
   clear c3
   obtain ⟨y101, hy101⟩ : ∃ y_ : List Int, y_ = (List.replicate ((l0.length : Int) : Int).toNat 0) := ⟨_, rfl⟩
   replace H : (earshotref03_Transform.l0 k l0 (l0.length : Int) y101 0) = some r := by first | (rw [hy101]; with_reducible exact H) | (have H2_ := (Option.bind_some _ _).symm.trans H; rw [hy101]; with_reducible exact H2_) | (have H2_ := (Option.bind_some _ _).symm.trans H; with_reducible exact H2_) | with_reducible exact H | (rw [hy101]; exact H) | exact H
   have Ny101 := Aside0.mk hy101
   clear hy101
   have H' := Aside0.mk H
   clear H
   go_enter Tryd.func53, Tryd.ntmps53
   go_wp2_with (first | ((with_reducible refine gate_dst (N := 10) rfl ?_); refine Kd.R_make (Kd.int .i64) _ 3 rfl (N := 10) rfl 22 _ _ rfl (l0.length : Int) rfl rfl Tryd.underlying22 (.int .i64 0) 8 info3 rfl (by decide) (by omega) 0 (ok := fun _ => True) (okp := fun _ => True) rfl (fun _ hk => hk) trivial (of_decide_eq_true tA) (Nat.le_trans (Nat.mul_le_mul_right _ (of_decide_eq_true tA : (l0.length : Int).toNat ≤ 35184372088832)) (by omega)) (Below.refl _ _) (Nat.le_refl _) ?_; intro v102 w4 ho5 hb hg_ hnew_; clear hg_ hnew_; (first | rw [← Ny101.out] at ho5 | (simp only [Int.reduceToNat] at ho5; rw [← Ny101.out] at ho5)); have n0_ := Aside0.mk (Kd.R_lower ho5 (below_size tB)); have n1_ := Aside0.mk (below_step tB hb); clear HB; have HO103 := n0_; have HB := n1_; clear n0_ n1_; clear hb ho5))
   go_loopg [5] k (fun kq v5 w' => ∃ (x4_1 : List Int) (x5_1 : Int), v5 = .int .i64 x5_1 ∧ Aside0 (earshotref03_Transform.l0 kq l0 (l0.length : Int) x4_1 x5_1 = some r) ∧ Aside0 (kq ≤ k) ∧ Aside0 (Kd.R (Kd.int .i64) 3 w' w.heap.size (fun _ => True) v102 x4_1) ∧ Aside0 (Below w.heap.size w w'))
   case atStart => exact ⟨(y101), (0), (by first | rfl | (simp; done) | (simp only [i64_w]; done) | (simp [*]; done)), H', ⟨Nat.le_refl _⟩, ⟨tR HO103.out⟩, ⟨tB⟩⟩
   case round =>
    clear H'
    try clear c2
    try clear c2b0
    try clear c2b1
    try clear p2
    try clear c3
    try clear c3b0
    try clear c3b1
    try clear c5
    obtain ⟨x4_1, x5_1, rfl, HA, HK1, HO_4, HB⟩ := hrel
    cases gk with
    | zero => exact absurd HA.out (by simp [earshotref03_Transform.l0])
    | succ k1 =>
     have H := HA.out
     clear HA
     simp only [earshotref03_Transform.l0] at H
     by_cases c6 : x5_1 < (l0.length : Int)
     ·rw [if_pos c6] at H
      have c6b0 := decide_eq_true c6
      clear c6
      have H' := Aside0.mk H
      clear H
      go_wp2
      go_loopg [6] k1 (fun kq v6 w' => ∃ (x4_2 : List Int) (x6_2 : Int), v6 = .int .i64 x6_2 ∧ Aside0 (earshotref03_Transform.l1 kq l0 (l0.length : Int) x4_2 x5_1 x6_2 = some r) ∧ Aside0 (kq ≤ k1) ∧ Aside0 (Kd.R (Kd.int .i64) 3 w' w.heap.size (fun _ => True) v102 x4_2) ∧ Aside0 (Below w.heap.size w w'))
      case atStart => exact ⟨(x4_1), (0), (by first | rfl | (simp; done) | (simp only [i64_w]; done) | (simp [*]; done)), H', ⟨Nat.le_refl _⟩, ⟨tR HO_4.out⟩, ⟨tB⟩⟩
      case round =>
       clear H'
       try clear c2
       try clear c2b0
       try clear c2b1
       try clear p2
       try clear c3
       try clear c3b0
       try clear c3b1
       try clear c5
       try clear c6
       try clear c6b0
       try clear p2
       obtain ⟨x4_2, x6_2, rfl, HA, HK2, HO_4, HB⟩ := hrel
       cases gk with
       | zero => exact absurd HA.out (by simp [earshotref03_Transform.l1])
       | succ k2 =>
        have H := HA.out
        clear HA
        simp only [earshotref03_Transform.l1] at H
        by_cases c7 : x6_2 < (l0.length : Int)
        ·rw [if_pos c7] at H
         have c7b0 := decide_eq_true c7
         clear c7
         by_cases c8 : 0 ≤ x5_1
         ·rw [if_pos c8] at H
          have c8b0 := decide_eq_true c8
          clear c8
          by_cases c9 : x5_1 < (x4_2.length : Int)
          ·rw [if_pos c9] at H
           have c9b0 := decide_eq_true c9
           clear c9
           by_cases c10 : 0 ≤ x6_2
           ·rw [if_pos c10] at H
            have c10b0 := decide_eq_true c10
            clear c10
            by_cases c11 : x6_2 < (l0.length : Int)
            ·rw [if_pos c11] at H
             have c11b0 := decide_eq_true c11
             clear c11
             by_cases c12 : (l0.length : Int) = 0
             ·rw [if_pos c12] at H
              exact absurd H (by simp)
             ·rw [if_neg c12] at H
              have c12b0 : ((l0.length : Int) == 0) = false := beq_eq_false_iff_ne.mpr c12
              have c12b1 : ((l0.length : Int) != 0) = true := bne_iff_ne.mpr c12
              have c12b2 : ¬ (l0 = []) := fun h_ => c12 (by rw [h_]; rfl)
              replace H := Option.bind_eq_some_iff.mp H
              obtain ⟨t106, A130, H⟩ := H
              try dsimp only at H
              have A13 := Aside0.mk A130
              clear A130
              obtain ⟨y107, hy107⟩ : ∃ y_ : List Int, y_ = (x4_2.set (x5_1 : Int).toNat (wrap64 ((rd x4_2 x5_1) + (wrap64 ((rd l0 x6_2) * t106))))) := ⟨_, rfl⟩
              replace H : (earshotref03_Transform.l1 k2 l0 (l0.length : Int) y107 x5_1 (wrap64 (x6_2 + 1))) = some r := by first | (rw [hy107]; with_reducible exact H) | (have H2_ := (Option.bind_some _ _).symm.trans H; rw [hy107]; with_reducible exact H2_) | (have H2_ := (Option.bind_some _ _).symm.trans H; with_reducible exact H2_) | with_reducible exact H | (rw [hy107]; exact H) | exact H
              have Ny107 := Aside0.mk hy107
              clear hy107
              have H' := Aside0.mk H
              clear H
              try go_wp2
              have n0_ := Aside0.mk (Kd.R_drew HO_4.out)
              have n1_ := Aside0.mk (below_drew1 HB.out)
              clear HO_4
              clear HB
              have HO_4 := n0_
              have HB := n1_
              clear n0_ n1_
              obtain ⟨Ao16, co16, eo16⟩ := Kd.R_slice HO_4.out
              (first | subst eo16 | (injection eo16 with f1_ f2_ f3_; have f4_ := f1_.symm; have f5_ := f3_.symm; clear f1_ f2_ f3_; subst f4_; subst f5_))
              have p104 : 0 ≤ (x5_1 : Int) := of_decide_eq_true tA
              have q104 : x5_1 < (x4_2.length : Int) := of_decide_eq_true tA
              obtain ⟨ad104, e104, hx104_0⟩ := Kd.at_int (Kd.R_reads' HO_4.out).2.2 x5_1 p104 q104
              cases e104
              replace p104 := eq_true p104
              replace q104 := eq_true q104
              have p105 : 0 ≤ (x6_2 : Int) := of_decide_eq_true tA
              have q105 : x6_2 < (l0.length : Int) := of_decide_eq_true tA
              obtain ⟨ad105, e105, hx105_0⟩ := Kd.at_int HR0.out x6_2 p105 q105
              have hw105_0 := hx105_0
              cases e105
              replace hx105_0 := (HB.out.cell (World.block_lt_of_cell? w _ hx105_0)).trans hx105_0
              replace p105 := eq_true p105
              replace q105 := eq_true q105
              refine start_ (n := 23) (S := fun w' => w'.cell? (ad104.add (x5_1).toNat) = some (.int .i64 (rd x4_2 x5_1)) ∧ w'.cell? (ad105.add (x6_2).toNat) = some (.int .i64 (rd l0 x6_2))) (ds := [22]) #[false, false, false, false, false, false, false, false, false, false, false, false, false, false, false, false, false, false, false, false, false, false, false] (by kernel_rfl) rfl rfl ⟨hx104_0, ((HB.out.cell (World.block_lt_of_cell? w _ hw105_0)).trans hw105_0)⟩ (fun hHeld => ?_); refine with_tabW earshotref03_Transform.tab9 earshotref03_Transform.bits9 (fun HT_ HW_ => ?_)
              generalize wr.drew = w15 at HO_4 HB hx104_0 hx105_0 hHeld ⊢
              refine pI 0 (some 21) (bm 1 23) HT_.out ?_
              refine pI 1 (some 22) (bm 2 23) HT_.out ?_
              refine pI 2 (some 23) (bm 3 23) HT_.out ?_
              refine pI 3 (some 24) (bm 4 23) HT_.out ?_
              refine pI 4 (some 25) (bm 5 23) HT_.out ?_
              refine pure_ (i := 6) (N := some 27) (v := ?_) (a' := ?_) #[true, true, true, true, true, false, true, false, false, false, false, false, false, false, false, false, false, false, false, false, false, false, false] rfl rfl (any_of HT_.out (by kernel_rfl)) (fun _ _ _ h => h) (Or.inl ⟨by rfl, ?_⟩) ?_ ?_
              rotate_left
              ·intro w'
               go_simp
               with_reducible rfl
              rotate_left
              ·simp only [Act.put, List.setIfInBounds_toArray, List.set_cons_zero, List.set_cons_succ, i64_w, i32_w]
               rfl
              refine pure_ (i := 7) (N := some 28) (v := ?_) (a' := ?_) #[true, true, true, true, true, false, true, true, false, false, false, false, false, false, false, false, false, false, false, false, false, false, false] rfl rfl (any_of HT_.out (by kernel_rfl)) (fun _ _ _ h => h) (Or.inl ⟨by rfl, ?_⟩) ?_ ?_
              rotate_left
              ·intro w'
               go_simp
               with_reducible rfl
              rotate_left
              ·simp only [Act.put, List.setIfInBounds_toArray, List.set_cons_zero, List.set_cons_succ, i64_w, i32_w]
               rfl
              refine pure_ (i := 8) (N := some 29) (v := ?_) (a' := ?_) #[true, true, true, true, true, false, true, true, true, false, false, false, false, false, false, false, false, false, false, false, false, false, false] rfl rfl (any_of HT_.out (by kernel_rfl)) (fun _ _ _ h => h) (Or.inl ⟨by rfl, ?_⟩) ?_ ?_
              rotate_left
              ·intro w'
               go_simp
               with_reducible rfl
              rotate_left
              ·simp only [Act.put, List.setIfInBounds_toArray, List.set_cons_zero, List.set_cons_succ, i64_w, i32_w]
               rfl
              refine pure_ (i := 10) (N := some 31) (v := ?_) (a' := ?_) #[true, true, true, true, true, false, true, true, true, false, true, false, false, false, false, false, false, false, false, false, false, false, false] rfl rfl (any_of HT_.out (by kernel_rfl)) (fun _ _ _ h => h) (Or.inl ⟨by rfl, ?_⟩) ?_ ?_
              rotate_left
              ·intro w'
               go_simp
               with_reducible rfl
              rotate_left
              ·simp only [Act.put, List.setIfInBounds_toArray, List.set_cons_zero, List.set_cons_succ, i64_w, i32_w]
               rfl
              refine pure_ (i := 11) (N := some 32) (v := ?_) (a' := ?_) #[true, true, true, true, true, false, true, true, true, false, true, true, false, false, false, false, false, false, false, false, false, false, false] rfl rfl (any_of HT_.out (by kernel_rfl)) (fun _ _ _ h => h) (Or.inl ⟨by rfl, ?_⟩) ?_ ?_
              rotate_left
              ·intro w'
               go_simp
               with_reducible rfl
              rotate_left
              ·simp only [Act.put, List.setIfInBounds_toArray, List.set_cons_zero, List.set_cons_succ, i64_w, i32_w]
               rfl
              refine pure_ (i := 12) (N := some 33) (v := ?_) (a' := ?_) #[true, true, true, true, true, false, true, true, true, false, true, true, true, false, false, false, false, false, false, false, false, false, false] rfl rfl (any_of HT_.out (by kernel_rfl)) (fun _ _ _ h => h) (Or.inl ⟨by rfl, ?_⟩) ?_ ?_
              rotate_left
              ·intro w'
               go_simp
               with_reducible rfl
              rotate_left
              ·simp only [Act.put, List.setIfInBounds_toArray, List.set_cons_zero, List.set_cons_succ, i64_w, i32_w]
               rfl
              refine pure_ (i := 13) (N := some 34) (v := ?_) (a' := ?_) #[true, true, true, true, true, false, true, true, true, false, true, true, true, true, false, false, false, false, false, false, false, false, false] rfl rfl (any_of HT_.out (by kernel_rfl)) (fun _ _ _ h => h) (Or.inl ⟨by rfl, ?_⟩) ?_ ?_
              rotate_left
              ·intro w'
               go_simp
               with_reducible rfl
              rotate_left
              ·simp only [Act.put, List.setIfInBounds_toArray, List.set_cons_zero, List.set_cons_succ, i64_w, i32_w]
               rfl
              refine pure_ (i := 14) (N := some 35) (v := ?_) (a' := ?_) #[true, true, true, true, true, false, true, true, true, false, true, true, true, true, true, false, false, false, false, false, false, false, false] rfl rfl (any_of HT_.out (by kernel_rfl)) (fun _ _ _ h => h) (Or.inl ⟨by rfl, ?_⟩) ?_ ?_
              rotate_left
              ·intro w'
               go_simp
               with_reducible rfl
              rotate_left
              ·simp only [Act.put, List.setIfInBounds_toArray, List.set_cons_zero, List.set_cons_succ, i64_w, i32_w]
               rfl
              refine pure_ (i := 15) (N := some 36) (v := ?_) (a' := ?_) #[true, true, true, true, true, false, true, true, true, false, true, true, true, true, true, true, false, false, false, false, false, false, false] rfl rfl (any_of HT_.out (by kernel_rfl)) (fun _ _ _ h => h) (Or.inl ⟨by rfl, ?_⟩) ?_ ?_
              rotate_left
              ·intro w'
               go_simp
               with_reducible rfl
              rotate_left
              ·simp only [Act.put, List.setIfInBounds_toArray, List.set_cons_zero, List.set_cons_succ, i64_w, i32_w]
               rfl
              refine pure_ (i := 16) (N := some 37) (v := ?_) (a' := ?_) #[true, true, true, true, true, false, true, true, true, false, true, true, true, true, true, true, true, false, false, false, false, false, false] rfl rfl (any_of HT_.out (by kernel_rfl)) (fun _ _ _ h => h) (Or.inl ⟨by rfl, ?_⟩) ?_ ?_
              rotate_left
              ·intro w'
               go_simp
               with_reducible rfl
              rotate_left
              ·simp only [Act.put, List.setIfInBounds_toArray, List.set_cons_zero, List.set_cons_succ, i64_w, i32_w]
               rfl
              refine pure_ (i := 17) (N := some 38) (v := ?_) (a' := ?_) #[true, true, true, true, true, false, true, true, true, false, true, true, true, true, true, true, true, true, false, false, false, false, false] rfl rfl (any_of HT_.out (by kernel_rfl)) (fun _ _ _ h => h) (Or.inl ⟨by rfl, ?_⟩) ?_ ?_
              rotate_left
              ·intro w'
               go_simp
               with_reducible rfl
              rotate_left
              ·simp only [Act.put, List.setIfInBounds_toArray, List.set_cons_zero, List.set_cons_succ, i64_w, i32_w]
               rfl
              refine take_ (i := 5) (N := some 26) (v := ?_) (a' := ?_) #[true, true, true, true, true, true, true, true, true, false, true, true, true, true, true, true, true, true, false, false, false, false, false] rfl rfl (take_ofW HT_.out HW_.out (by kernel_rfl)) (fun _ _ _ h => h) (Or.inl ⟨by rfl, ?_⟩) hHeld ?_ ?_
              rotate_left
              ·rintro w' ⟨s0, s1⟩
               go_simp
               with_reducible rfl
              rotate_left
              ·simp only [Act.put, List.setIfInBounds_toArray, List.set_cons_zero, List.set_cons_succ, i64_w, i32_w]
               rfl
              refine tk2 9 (some 30) (bm 18 23) HT_.out HW_.out hHeld ?_
              refine one_ (i := 18) (N := some 39) #[true, true, true, true, true, true, true, true, true, true, true, true, true, true, true, true, true, true, true, false, false, false, false] rfl rfl (one_of HT_.out (by kernel_rfl)) (by decide) (fun K hK => ?_)
              refine goes_ Tryd.func48 (by kernel_rfl) rfl #[.int .i64 (wrap64 ((wrap64 ((wrap64 ((wrap64 (2 * x6_2)) + 1)) * x5_1)) * (wrap64 ((64 : Int) / (l0.length : Int)))))] (by rfl) rfl rfl tL ?_
              with_reducible refine (earshotref03_C.calls (wrap64 ((wrap64 ((wrap64 ((wrap64 (2 * x6_2)) + 1)) * x5_1)) * (wrap64 ((64 : Int) / (l0.length : Int))))) t106 _ ?side1 A13.out).mono ?_
              (case side1 => exact tC (Kd.C_below HRT.out HB.out))
              rintro e w' ⟨rfl, ⟨nd, rfl⟩⟩
              refine ⟨_, rfl, ?_⟩
              have p14 : 0 ≤ (x5_1 : Int) := of_decide_eq_true tA
              have q14 : (x5_1 : Int) < ((x4_2.length : Int) : Int) := of_decide_eq_true tA
              obtain ⟨go14, co14, eo14, gb14, gl14, cl14, HG14⟩ := Kd.R_form HO_4.out (by omega)
              (first | cases eo14 | (injection eo14 with ea_ en_ ec_; (first | subst ea_ | (injection ea_ with ea_; subst ea_)); subst ec_; clear en_))
              have GB14 := Aside0.mk gb14
              have GG14 := Aside0.mk HG14
              clear gb14 gl14 HG14
              (first | simp only [add_plain] at hx104_0 | skip)
              obtain ⟨hx14_0, hf14_0⟩ := Kd.R_celln 0 HO_4.out (x5_1 : Int) p14 q14
              replace p14 := eq_true p14
              replace q14 := eq_true q14
              have HP17 := Kd.R_putn HO_4.out (x5_1 : Int) (wrap64 ((rd x4_2 x5_1) + (wrap64 ((rd l0 x6_2) * t106))))
              rw [← Ny107.out] at HP17
              have HQ17 := Aside0.mk HP17
              clear HP17
              refine hK.out _ _ ⟨hHeld.1, ((HB.out.cell (World.block_lt_of_cell? w _ hw105_0)).trans hw105_0)⟩ (fun hHeld => ?_)
              clear hK K
              refine norm_ (a' := ?_) ?_ ?_
              rotate_left
              ·show Act.put _ (some 39) _ = _
               simp only [Act.put, List.setIfInBounds_toArray, List.set_cons_zero, List.set_cons_succ, i64_w, i32_w]
               rfl
              refine pI 19 (some 40) (bm 20 23) HT_.out ?_
              refine pI 20 (some 41) (bm 21 23) HT_.out ?_
              refine pI 21 (some 42) (bm 22 23) HT_.out ?_
              refine last_ (i := 22) (N := none) #[true, true, true, true, true, true, true, true, true, true, true, true, true, true, true, true, true, true, true, true, true, true, true] rfl rfl (one_of HT_.out (by kernel_rfl)) (by decide) (fun K hK => ?_)
              refine skip_ (w1 := ?_) (by rfl) rfl ?_ ?_
              rotate_left
              ·go_simp
               rfl
              refine hK.out _ _ ?_
              clear hK K
              refine done_ (done_of HT_.out (by kernel_rfl)) ?_
              try go_wp2
              go_roundg k2
              case measure => have := HK1.out; have := HK2.out; omega
              case rel => exact ⟨(y107), (wrap64 (x6_2 + 1)), (by first | rfl | (simp; done) | (simp only [i64_w]; done) | (simp [*]; done)), H', ⟨by have := HK1.out; have := HK2.out; omega⟩, ⟨tR HQ17.out⟩, ⟨by repeat (first | (with_reducible first | exact HB.out | apply below_alloc | apply pw_below_drewN | apply below_drew1 | refine below_set ?_ GB14.out) | exact HB.out)⟩⟩
            ·rw [if_neg c11] at H
             exact absurd H (by simp)
           ·rw [if_neg c10] at H
            exact absurd H (by simp)
          ·rw [if_neg c9] at H
           exact absurd H (by simp)
         ·rw [if_neg c8] at H
          exact absurd H (by simp)
        ·rw [if_neg c7] at H
         have c7b0 := decide_eq_false c7
         clear c7
         have H' := Aside0.mk H
         clear H
         go_wp2
         go_roundg k2
         case measure => have := HK1.out; have := HK2.out; omega
         case rel => exact ⟨(x4_2), (wrap64 (x5_1 + 1)), (by first | rfl | (simp; done) | (simp only [i64_w]; done) | (simp [*]; done)), H', ⟨by have := HK1.out; have := HK2.out; omega⟩, ⟨tR HO_4.out⟩, ⟨tB⟩⟩
     ·rw [if_neg c6] at H
      have c6b0 := decide_eq_false c6
      clear c6
      obtain rfl := Option.some.inj H
      go_wp2
      go_ret
      exact ⟨_, by first | rfl | (simp [errW_none, errW_some] <;> rfl) | (simp [*, errW_none, errW_some] <;> rfl), tR HO_4.out, tB⟩
  ·rw [if_neg c3] at H
   exact absurd H (by simp)
 ·rw [if_neg c2] at H
  exact absurd H (by simp)

end Go.Proofs.YtdlbmbijobcljaaDoor.X

namespace Go.Proofs.YtdlbmbijobcljaaDoor.Pure
open Go.RowKit Go.Proofs.YtdlbmbijobcljaaDoor.X Go.Proofs.YtdlbmbijobcljaaDoorW.PrintWords Go.Proofs.YtdlbmbijobcljaaDoorW.PrintLast
set_option linter.unusedVariables false
set_option linter.unusedSimpArgs false
set_option linter.unusedSectionVars false
/-- The sum of row j of the transform, its first m terms; q = 64/n. -/
def trSum (l : List Int) (q : Int) (j : Nat) : Nat → Int
  | 0 => 0
  | m + 1 => trSum l q j m + rd l (m : Int) * cosv ((2 * (m : Int) + 1) * (j : Int) * q)
theorem trSum_bound (l : List Int) (h : ∀ x ∈ l, -65536 ≤ x ∧ x ≤ 65536) (q : Int) (j m : Nat) : -(1073741824 * (m : Int)) ≤ trSum l q j m ∧ trSum l q j m ≤ 1073741824 * (m : Int) := by
  induction m with
  | zero => simp [trSum]
  | succ m ih =>
    have h1 := rd_bound l 65536 (by omega) h (m : Int)
    have h2 := cosv_range ((2 * (m : Int) + 1) * (j : Int) * q)
    have h3 := mul_bound (rd l (m : Int)) (cosv ((2 * (m : Int) + 1) * (j : Int) * q)) 65536 16384 (by omega) (by omega) h2.1 h2.2
    simp only [trSum]
    omega
def trAt (l : List Int) (n j : Nat) : Int := trSum l ((64 : Int) / n) j n
def trList (l : List Int) (n j : Nat) : List Int := (List.range j).map (trAt l n) ++ List.replicate (n - j) 0
theorem trList_length (l : List Int) (n j : Nat) (h : j ≤ n) : (trList l n j).length = n := by simp [trList]; omega
theorem trList_set (l : List Int) (n j : Nat) (h : j < n) : (trList l n j).set j (trAt l n j) = trList l n (j + 1) := by
  unfold trList
  rw [List.range_succ, List.map_append, List.set_append_right _ _ (by simp)]
  simp only [List.length_map, List.length_range, Nat.sub_self, List.map_cons, List.map_nil, List.append_assoc]
  congr 1
  rw [show n - j = (n - (j + 1)) + 1 by omega, List.replicate_succ]
  rfl
theorem trList_set0 (l : List Int) (n j : Nat) (h : j < n) : (trList l n j).set j 0 = trList l n j := by
  unfold trList
  rw [List.set_append_right _ _ (by simp)]
  simp only [List.length_map, List.length_range, Nat.sub_self]
  congr 1
  rw [show n - j = (n - (j + 1)) + 1 by omega, List.replicate_succ]
  rfl
theorem rd_set (y : List Int) (j : Nat) (h : j < y.length) (a : Int) : rd (y.set j a) (j : Int) = a := by
  rw [rd_nat, List.getD_eq_getElem?_getD, List.getElem?_set, if_pos rfl, if_pos h]; rfl
section
variable (l : List Int) (n : Nat) (hn : isLen n = true) (hl : l.length = n) (h : ∀ x ∈ l, -65536 ≤ x ∧ x ≤ 65536)
include hn hl h
theorem tr_term (j m : Nat) : wrap64 (trSum l ((64 : Int) / n) j m + wrap64 (rd l (m : Int) * cosv ((2 * (m : Int) + 1) * (j : Int) * ((64 : Int) / n)))) = trSum l ((64 : Int) / n) j (m + 1) ∨ 64 < m := by
  by_cases hm : 64 < m
  · exact .inr hm
  · left
    have h1 := rd_bound l 65536 (by omega) h (m : Int)
    have h2 := cosv_range ((2 * (m : Int) + 1) * (j : Int) * ((64 : Int) / n))
    have h3 := mul_bound (rd l (m : Int)) (cosv ((2 * (m : Int) + 1) * (j : Int) * ((64 : Int) / n))) 65536 16384 (by omega) (by omega) h2.1 h2.2
    have h4 := trSum_bound l h ((64 : Int) / n) j m
    rw [w64 (n := rd l (m : Int) * _) (by omega) (by omega), w64 (by omega) (by omega)]
    rfl
theorem tr_row (j : Nat) (hj : j < n) (y : List Int) (hy : y.length = n) (R : List Int) (hR : Ev (fun k => feature_transform.l0 k l (n : Int) (y.set j (trAt l n j)) (n : Int) ((j + 1 : Nat) : Int)) R) :
    ∀ r m : Nat, m + r = n → Ev (fun k => feature_transform.l1 k l (n : Int) (y.set j (trSum l ((64 : Int) / n) j m)) (j : Int) (n : Int) (j : Int) l (n : Int) (m : Int)) R := by
  obtain ⟨n0, n1, n2, n3, n4⟩ := isLen_dvd n hn
  intro r
  induction r with
  | zero =>
    intro m hm
    obtain rfl : m = n := by omega
    refine Ev.step (fun k => ?_) hR
    simp only [feature_transform.l1]
    rw [if_neg (by omega), w64 (by omega) (by omega)]
    rfl
  | succ r ih =>
    intro m hm
    have h1 := ih (m + 1) (by omega)
    refine Ev.step (fun k => ?_) h1
    simp only [feature_transform.l1]
    have hx : (if (n : Int) = 0 then (none : Option Int) else feature_cosine.f (wrap64 (Int.tdiv (wrap64 ((wrap64 ((wrap64 ((wrap64 (2 * (m : Int))) + 1)) * (j : Int))) * 64)) (n : Int)))) = some (cosv ((2 * (m : Int) + 1) * (j : Int) * ((64 : Int) / n))) := inv_index n m j ((64 : Int) / n) n0 n2 n1 (by omega) hj
    rw [if_neg (by omega)] at hx
    rw [if_pos (by omega), if_pos (by omega), if_pos (by omega), if_pos (by omega), if_pos (by rw [List.length_set]; omega), if_neg (by omega), hx, Option.bind_some, rd_set _ _ (by omega), Int.toNat_natCast, List.set_set]
    rcases tr_term l n hn hl h j m with ht | ht
    · rw [ht, w64 (by omega) (by omega), show (m : Int) + 1 = ((m + 1 : Nat) : Int) by omega]
    · omega
theorem tr_loop : ∀ r j : Nat, j + r = n → Ev (fun k => feature_transform.l0 k l (n : Int) (trList l n j) (n : Int) (j : Int)) (trList l n n) := by
  obtain ⟨n0, n1, n2, n3, n4⟩ := isLen_dvd n hn
  intro r
  induction r with
  | zero =>
    intro j hj
    refine Ev.step (f := fun _ => some (trList l n n)) (fun k => ?_) (Ev.now _)
    simp only [feature_transform.l0]
    rw [if_neg (by omega), show j = n by omega]
  | succ r ih =>
    intro j hj
    have h1 := ih (j + 1) (by omega)
    rw [← trList_set l n j (by omega)] at h1
    have h2 := tr_row l n hn hl h j (by omega) (trList l n j) (trList_length l n j (by omega)) _ h1 n 0 (by omega)
    rw [show trSum l ((64 : Int) / n) j 0 = 0 from rfl, trList_set0 l n j (by omega)] at h2
    refine Ev.step (fun k => ?_) h2
    simp only [feature_transform.l0]
    rw [if_pos (by omega), hl]
    rfl
theorem transform_ev : Ev (fun k => feature_transform.f k l) (trList l n n) := by
  obtain ⟨n0, n1, n2, n3, n4⟩ := isLen_dvd n hn
  refine Ev.congr (fun k => ?_) (tr_loop l n hn hl h n 0 (by omega))
  unfold feature_transform.f
  rw [if_pos (by omega), if_pos (by omega), Option.bind_some, List.length_replicate, hl, Int.toNat_natCast]
  rfl
theorem tr_row' (j : Nat) (hj : j < n) (y : List Int) (hy : y.length = n) (R : List Int) (hR : Ev (fun k => earshotref03_Transform.l0 k l (n : Int) (y.set j (trAt l n j)) ((j + 1 : Nat) : Int)) R) :
    ∀ r m : Nat, m + r = n → Ev (fun k => earshotref03_Transform.l1 k l (n : Int) (y.set j (trSum l ((64 : Int) / n) j m)) (j : Int) (m : Int)) R := by
  obtain ⟨n0, n1, n2, n3, n4⟩ := isLen_dvd n hn
  intro r
  induction r with
  | zero =>
    intro m hm
    obtain rfl : m = n := by omega
    refine Ev.step (fun k => ?_) hR
    simp only [earshotref03_Transform.l1]
    rw [if_neg (by omega), w64 (by omega) (by omega)]
    rfl
  | succ r ih =>
    intro m hm
    have h1 := ih (m + 1) (by omega)
    refine Ev.step (fun k => ?_) h1
    simp only [earshotref03_Transform.l1]
    have hx := inv_index' n m j ((64 : Int) / n) n0 (by omega) n4 n1 (by omega) hj
    rw [if_pos (by omega), if_pos (by omega), if_pos (by rw [List.length_set]; omega), if_pos (by omega), if_pos (by omega), if_neg (by omega), hx, Option.bind_some, rd_set _ _ (by omega), Int.toNat_natCast, List.set_set]
    rcases tr_term l n hn hl h j m with ht | ht
    · rw [ht, w64 (by omega) (by omega), show (m : Int) + 1 = ((m + 1 : Nat) : Int) by omega]
    · omega
theorem tr_loop' : ∀ r j : Nat, j + r = n → Ev (fun k => earshotref03_Transform.l0 k l (n : Int) (trList l n j) (j : Int)) (trList l n n) := by
  obtain ⟨n0, n1, n2, n3, n4⟩ := isLen_dvd n hn
  intro r
  induction r with
  | zero =>
    intro j hj
    refine Ev.step (f := fun _ => some (trList l n n)) (fun k => ?_) (Ev.now _)
    simp only [earshotref03_Transform.l0]
    rw [if_neg (by omega), show j = n by omega]
  | succ r ih =>
    intro j hj
    have h1 := ih (j + 1) (by omega)
    rw [← trList_set l n j (by omega)] at h1
    have h2 := tr_row' l n hn hl h j (by omega) (trList l n j) (trList_length l n j (by omega)) _ h1 n 0 (by omega)
    rw [show trSum l ((64 : Int) / n) j 0 = 0 from rfl, trList_set0 l n j (by omega)] at h2
    refine Ev.step (fun k => ?_) h2
    simp only [earshotref03_Transform.l0]
    rw [if_pos (by omega)]
    rfl
theorem ref_transform_ev : Ev (fun k => earshotref03_Transform.f k l) (trList l n n) := by
  obtain ⟨n0, n1, n2, n3, n4⟩ := isLen_dvd n hn
  refine Ev.congr (fun k => ?_) (tr_loop' l n hn hl h n 0 (by omega))
  unfold earshotref03_Transform.f
  rw [if_pos (by omega), if_pos (by omega), hl, Int.toNat_natCast]
  rfl
theorem within_ok : feature_within.f l 65536 = some true := by
  rw [within_at _ _ (by omega) (by omega)]
  congr 1
  unfold allIn
  rw [List.all_eq_true]
  intro x hx
  have := h x hx
  simp; omega
theorem Transform_ok : Ev (fun k => feature_Transform.f k l) (trList l n n, 0) := by
  refine Ev.congr (f := fun k => (feature_transform.f k l).bind fun t103 => some (t103, 0)) (fun k => ?_) (Ev.bind (transform_ev l n hn hl h) (Ev.now _))
  unfold feature_Transform.f
  rw [hl, possible_at, hn, Option.bind_some, if_pos rfl, within_ok l n hn hl h, Option.bind_some, if_pos rfl]
end
theorem Transform_bad (l : List Int) (h : isLen l.length = false ∨ allIn l (-65536) 65536 = false) (k : Nat) : feature_Transform.f k l = some ([], 2) := by
  unfold feature_Transform.f
  rw [possible_at, Option.bind_some]
  cases hp : isLen l.length with
  | false => rw [if_neg (by simp)]
  | true =>
    rcases h with h | h
    · rw [hp] at h; cases h
    · rw [if_pos rfl, within_at _ _ (by omega) (by omega), h, Option.bind_some]
      rfl
end Go.Proofs.YtdlbmbijobcljaaDoor.Pure

namespace Go.Proofs.YtdlbmbijobcljaaDoor.X
open Go.RowKit Go.Proofs.YtdlbmbijobcljaaDoorW.PrintWords Go.Proofs.YtdlbmbijobcljaaDoorW.PrintLast Go.Proofs.YtdlbmbijobcljaaDoorW.PrintMore
attribute [local go_sem] max2_int min2_int max_two min_two max_three min_three max_four min_four   -- for this text's walks alone
set_option linter.unusedVariables false
set_option linter.unusedSimpArgs false
/-! ### earshotref03_Spectrum: function 54 -/
def earshotref03_Spectrum.l0 : Nat → List Int → List Int → Int → Option (List Int)
 | 0, _, _, _ => none
 | k + 1, x3, x4, x5 => if x5 < (x3.length : Int) then (if 0 ≤ x5 then ((earshotref02_Round.f k (rd x3 x5) 16384).bind fun t108 => (if x5 < (x4.length : Int) then (earshotref03_Spectrum.l0 k x3 (x4.set (x5 : Int).toNat t108) (wrap64 (x5 + 1))) else (none))) else (none)) else (some x4)
def earshotref03_Spectrum.f (k : Nat) (l0 : List Int) : Option (List Int) := (earshotref03_Transform.f k l0).bind fun t101 => (if 0 ≤ (t101.length : Int) then (if ((t101.length : Int) : Int).toNat ≤ 35184372088832 then (earshotref03_Spectrum.l0 k t101 (List.replicate ((t101.length : Int) : Int).toNat 0) 0) else (none)) else (none))
theorem earshotref03_Spectrum.mono_l : ∀ k, (∀ y0 y1 y2, LeO (earshotref03_Spectrum.l0 k y0 y1 y2) (earshotref03_Spectrum.l0 (k + 1) y0 y1 y2))
 | 0 => fun _ _ _ r h => by simp [earshotref03_Spectrum.l0] at h
 | k + 1 => by
  have ih0 := earshotref03_Spectrum.mono_l k
  ·intro y0 y1 y2
   unfold earshotref03_Spectrum.l0
   repeat' first
   | (with_reducible exact ih0 _ _ _)
   | (with_reducible exact earshotref02_Round.mono _ _ _)
   | (with_reducible exact earshotref03_Transform.mono _ _)
   | (with_reducible exact LeO.refl _)
   | (with_reducible exact LeO.none _)
   | (with_reducible refine LeO.ite ?_ ?_)
   | (with_reducible refine LeO.bind ?_ (fun _ => ?_))
   | exact ih0 _ _ _
   | exact earshotref02_Round.mono _ _ _
   | exact earshotref03_Transform.mono _ _
   | exact LeO.none _
   | refine LeO.ite ?_ ?_
   | refine LeO.bind ?_ (fun _ => ?_)
theorem earshotref03_Spectrum.mono : ∀ a0 k, LeO (earshotref03_Spectrum.f k a0) (earshotref03_Spectrum.f (k + 1) a0) := by
 intro a0 k
 have ih0 := earshotref03_Spectrum.mono_l k
 unfold earshotref03_Spectrum.f
 repeat' first
   | (with_reducible exact ih0 _ _ _)
   | (with_reducible exact earshotref02_Round.mono _ _ _)
   | (with_reducible exact earshotref03_Transform.mono _ _)
   | (with_reducible exact LeO.refl _)
   | (with_reducible exact LeO.none _)
   | (with_reducible refine LeO.ite ?_ ?_)
   | (with_reducible refine LeO.bind ?_ (fun _ => ?_))
   | exact ih0 _ _ _
   | exact earshotref02_Round.mono _ _ _
   | exact earshotref03_Transform.mono _ _
   | exact LeO.none _
   | refine LeO.ite ?_ ?_
   | refine LeO.bind ?_ (fun _ => ?_)
set_option maxHeartbeats 8000000 in
set_option maxRecDepth 100000 in
theorem earshotref03_Spectrum.calls (k : Nat) (A0 : Option Addr) (c0 : Nat) (l0 : List Int) (r : List Int) (w : World) (ht : Kd.C (Kd.int .i64) w (some ⟨0, 0, none⟩) 65 tabL) (hr0 : Kd.C (Kd.int .i64) w A0 l0.length l0) (hc0 : l0.length ≤ c0) (h : earshotref03_Spectrum.f k l0 = some r) :
  Calls Tryd.prog 54 #[.slice A0 l0.length c0] w fun e w' => ∃ v0_ : Value, e = .returned (v0_) ∧ Kd.R (Kd.int .i64) 3 w' w.heap.size (fun _ => True) v0_ r ∧ Below w.heap.size w w' := by
 have HRT := Aside0.mk ht
 clear ht
 have HR0 := Aside0.mk hr0
 have HC0 := Aside0.mk hc0
 clear hr0 hc0
 have HB := Aside0.mk (Below.refl w.heap.size w)
 have H : ((earshotref03_Transform.f k l0).bind fun t101 => (if 0 ≤ (t101.length : Int) then (if ((t101.length : Int) : Int).toNat ≤ 35184372088832 then (earshotref03_Spectrum.l0 k t101 (List.replicate ((t101.length : Int) : Int).toNat 0) 0) else (none)) else (none))) = some r := h
 clear h
 replace H := Option.bind_eq_some_iff.mp H
 obtain ⟨t101, A20, H⟩ := H
 try dsimp only at H
 have A2 := Aside0.mk A20
 clear A20
 by_cases c3 : 0 ≤ (t101.length : Int)
 ·rw [if_pos c3] at H
  have c3b0 := eq_true c3
  have c3b1 := decide_eq_true c3
  clear c3
  by_cases c4 : ((t101.length : Int) : Int).toNat ≤ 35184372088832
  ·rw [if_pos c4] at H
   have c4b0 := eq_true c4
   have c4b1 := decide_eq_true c4
   clear c4
   obtain ⟨y104, hy104⟩ : ∃ y_ : List Int, y_ = (List.replicate ((t101.length : Int) : Int).toNat 0) := ⟨_, rfl⟩
   replace H : (earshotref03_Spectrum.l0 k t101 y104 0) = some r := by first | (rw [hy104]; with_reducible exact H) | (have H2_ := (Option.bind_some _ _).symm.trans H; rw [hy104]; with_reducible exact H2_) | (have H2_ := (Option.bind_some _ _).symm.trans H; with_reducible exact H2_) | with_reducible exact H | (rw [hy104]; exact H) | exact H
   have Ny104 := Aside0.mk hy104
   clear hy104
   have H' := Aside0.mk H
   clear H
   go_enter Tryd.func54, Tryd.ntmps54
   go_wp2_with (first | ((with_reducible refine gate_callee (f := 53) rfl ?_); refine goesL_ (some 7) rfl rfl Tryd.func53 (by kernel_rfl) rfl #[.slice A0 l0.length c0] rfl tL ?_; (with_reducible refine (earshotref03_Transform.calls k _ _ l0 t101 _ ?side3 ?side1 ?side2 A2.out).mono ?_); (case side1 => exact tC HR0.out); (case side2 => exact HC0.out); (case side3 => exact tC HRT.out); rintro e w5 ⟨v102, rfl, ho0, hb⟩; refine ⟨_, rfl, ?_⟩; have n0_ := Aside0.mk (Kd.R_lower ho0 (below_size tB)); have n1_ := Aside0.mk (below_step tB hb); clear HB; have HO103 := n0_; have HB := n1_; clear n0_ n1_; (try clear hb); (try clear hb2); (try clear hk); (try clear hi); (try clear ho0); obtain ⟨Ao6, co6, eo6⟩ := Kd.R_slice HO103.out; subst eo6) | ((with_reducible refine gate_dst (N := 10) rfl ?_); refine Kd.R_make (Kd.int .i64) _ 3 rfl (N := 10) rfl 22 _ _ rfl (t101.length : Int) rfl rfl Tryd.underlying22 (.int .i64 0) 8 info3 rfl (by decide) (by omega) 0 (ok := fun _ => True) (okp := fun _ => True) rfl (fun _ hk => hk) trivial (of_decide_eq_true tA) (Nat.le_trans (Nat.mul_le_mul_right _ (of_decide_eq_true tA : (t101.length : Int).toNat ≤ 35184372088832)) (by omega)) (Below.refl _ _) (Nat.le_refl _) ?_; intro v105 w7 ho8 hb hg_ hnew_; clear hg_ hnew_; (first | rw [← Ny104.out] at ho8 | (simp only [Int.reduceToNat] at ho8; rw [← Ny104.out] at ho8)); have n0_ := Aside0.mk (Kd.R_elder' (tR HO103.out) (Kd.R_base ho8) hb); have n1_ := Aside0.mk (Kd.R_lower (Kd.R_new' ho8 (Kd.R_lt (tR HO103.out))) (below_size tB)); have n2_ := Aside0.mk (below_step tB hb); clear HO103; clear HB; have HO103 := n0_; have HO106 := n1_; have HB := n2_; clear n0_ n1_ n2_; clear hb ho8))
   go_loopg [5] k (fun kq v5 w' => ∃ (x4_1 : List Int) (x5_1 : Int), v5 = .int .i64 x5_1 ∧ Aside0 (earshotref03_Spectrum.l0 kq t101 x4_1 x5_1 = some r) ∧ Aside0 (kq ≤ k) ∧ Aside0 (Kd.R (Kd.int .i64) 3 w' w.heap.size (fun k_ => some k_ ≠ (v105 : Value).ownBlock) (.slice Ao6 t101.length co6) t101) ∧ Aside0 (Kd.R (Kd.int .i64) 3 w' w.heap.size (fun k_ => some k_ ≠ ((.slice Ao6 t101.length co6) : Value).ownBlock) v105 x4_1) ∧ Aside0 (Below w.heap.size w w'))
   case atStart => exact ⟨(y104), (0), (by first | rfl | (simp; done) | (simp only [i64_w]; done) | (simp [*]; done)), H', ⟨Nat.le_refl _⟩, ⟨by (with_reducible repeat (first | apply Kd.R_alloc | apply Kd.R_drewN | apply Kd.R_drew)); exact Kd.R_mono HO103.out (fun _ hk => hk.2)⟩, ⟨by (with_reducible repeat (first | apply Kd.R_alloc | apply Kd.R_drewN | apply Kd.R_drew)); exact Kd.R_mono HO106.out (fun _ hk => hk.2)⟩, ⟨tB⟩⟩
   case round =>
    clear H'
    try clear p2
    try clear c3
    try clear c3b0
    try clear c3b1
    try clear c4
    try clear c4b0
    try clear c4b1
    try clear c5
    obtain ⟨x4_1, x5_1, rfl, HA, HK1, HO_3, HO_4, HB⟩ := hrel
    cases gk with
    | zero => exact absurd HA.out (by simp [earshotref03_Spectrum.l0])
    | succ k1 =>
     have H := HA.out
     clear HA
     simp only [earshotref03_Spectrum.l0] at H
     by_cases c9 : x5_1 < (t101.length : Int)
     ·rw [if_pos c9] at H
      have c9b0 := decide_eq_true c9
      clear c9
      by_cases c10 : 0 ≤ x5_1
      ·rw [if_pos c10] at H
       have c10b0 := decide_eq_true c10
       clear c10
       replace H := Option.bind_eq_some_iff.mp H
       obtain ⟨t108, A110, H⟩ := H
       try dsimp only at H
       have A11 := Aside0.mk A110
       clear A110
       by_cases c12 : x5_1 < (x4_1.length : Int)
       ·rw [if_pos c12] at H
        have c12b0 := decide_eq_true c12
        clear c12
        obtain ⟨y109, hy109⟩ : ∃ y_ : List Int, y_ = (x4_1.set (x5_1 : Int).toNat t108) := ⟨_, rfl⟩
        replace H : (earshotref03_Spectrum.l0 k1 t101 y109 (wrap64 (x5_1 + 1))) = some r := by first | (rw [hy109]; with_reducible exact H) | (have H2_ := (Option.bind_some _ _).symm.trans H; rw [hy109]; with_reducible exact H2_) | (have H2_ := (Option.bind_some _ _).symm.trans H; with_reducible exact H2_) | with_reducible exact H | (rw [hy109]; exact H) | exact H
        have Ny109 := Aside0.mk hy109
        clear hy109
        have H' := Aside0.mk H
        clear H
        have p107 : 0 ≤ (x5_1 : Int) := of_decide_eq_true tA
        have q107 : x5_1 < (t101.length : Int) := of_decide_eq_true tA
        obtain ⟨ad107, e107, hx107_0⟩ := Kd.at_int (Kd.R_reads' HO_3.out).2.2 x5_1 p107 q107
        cases e107
        replace p107 := eq_true p107
        replace q107 := eq_true q107
        go_wp2_with (first | ((with_reducible refine gate_callee (f := 83) rfl ?_); refine goesL_ (some 23) rfl rfl Tryd.func83 (by kernel_rfl) rfl #[.int .i64 (rd t101 x5_1), .int .i64 16384] rfl tL ?_; (with_reducible refine (earshotref02_Round.calls k1 (rd t101 x5_1) 16384 t108 _ A11.out).mono ?_); rintro e w' ⟨rfl, ⟨nd, rfl⟩⟩; refine ⟨_, rfl, ?_⟩; (try (rw [drewN_self wr]; generalize hq_ : World.drewN wr _ = wr; have n0_ : Aside0 (Kd.R (Kd.int .i64) 3 wr w.heap.size (fun k_ => some k_ ≠ (v105 : Value).ownBlock) (.slice (some ad107) t101.length co6) t101) := ⟨by rw [← hq_]; exact (tR HO_3.out)⟩; have n1_ : Aside0 (Kd.R (Kd.int .i64) 3 wr w.heap.size (fun k_ => some k_ ≠ (.slice (some ad107) t101.length co6 : Value).ownBlock) v105 x4_1) := ⟨by rw [← hq_]; exact (tR HO_4.out)⟩; have n2_ : Aside0 (Below w.heap.size w wr) := ⟨by rw [← hq_]; exact tB⟩; clear HO_3 HO_4 HB hq_; have HO_3 := n0_; have HO_4 := n1_; have HB := n2_; clear n0_ n1_ n2_)); have p13 : 0 ≤ (x5_1 : Int) := of_decide_eq_true tA; have q13 : (x5_1 : Int) < ((x4_1.length : Int) : Int) := of_decide_eq_true tA; obtain ⟨go13, co13, eo13, gb13, gl13, cl13, HG13⟩ := Kd.R_form HO_4.out (by omega); (first | cases eo13 | (injection eo13 with ea_ en_ ec_; (first | subst ea_ | (injection ea_ with ea_; subst ea_)); subst ec_; clear en_)); have GB13 := Aside0.mk gb13; have GG13 := Aside0.mk HG13; clear gb13 gl13 HG13; obtain ⟨hx13_0, hf13_0⟩ := Kd.R_celln 0 HO_4.out (x5_1 : Int) p13 q13; replace p13 := eq_true p13; replace q13 := eq_true q13; obtain ⟨hy14_, hz14_⟩ := Kd.R_celln 0 HO_4.out (x5_1 : Int) (of_decide_eq_true tA) (of_decide_eq_true tA); have HP14 := Kd.R_putg HO_4.out (x5_1 : Int) t108) | ((with_reducible refine gate_store (t := 3) (p := 24) rfl ?_); refine store_event (t := 3) (p := 24) (v := ?vo_w15) (w1 := (wr.setCell ⟨go13, (x5_1 : Int).toNat, none⟩ (.int .i64 t108))) ?hg ?ho ?hn ?hr ?_; (case ho => rfl); (case hg => rfl); (case hn => rfl); (case hr => first | (go_simp; done) | (go_simp; rfl)); intro w15 hw; have hg : wr.grownBy w15 (some go13) := (by rw [hw]; exact HP14.2); have hp_ : Kd.R (Kd.int .i64) 3 w15 w.heap.size (fun k_ => some k_ ≠ (.slice (some ad107) t101.length co6 : Value).ownBlock) (.slice (some ⟨go13, 0, none⟩) x4_1.length co13) y109 := (by rw [hw, Ny109.out]; exact HP14.1); clear HP14; have n0_ := Aside0.mk (Kd.R_after (v := (.slice (some ⟨go13, 0, none⟩) x4_1.length co13)) (v1 := (.slice (some ⟨go13, 0, none⟩) x4_1.length co13)) (ok := (fun _ => True)) (by (with_reducible repeat (first | apply Kd.R_alloc | apply Kd.R_drewN | apply Kd.R_drew)); exact Kd.R_mono HO_3.out (fun _ hk => ⟨trivial, hk⟩)) hg (.inl rfl)); have n1_ := Aside0.mk (hp_); have n2_ := Aside0.mk ((by rw [hw]; exact below_set (HB.out) GB13.out : Below w.heap.size w w15)); clear HO_3; clear HO_4; clear HB; have HO_3 := n0_; have HO_4 := n1_; have HB := n2_; clear n0_ n1_ n2_; clear hg hw hp_))
        go_roundg k1
        case measure => have := HK1.out; omega
        case rel => exact ⟨(y109), (wrap64 (x5_1 + 1)), (by first | rfl | (simp; done) | (simp only [i64_w]; done) | (simp [*]; done)), H', ⟨by have := HK1.out; omega⟩, ⟨by (with_reducible repeat (first | apply Kd.R_alloc | apply Kd.R_drewN | apply Kd.R_drew)); exact Kd.R_mono HO_3.out (fun _ hk => hk.2)⟩, ⟨tR HO_4.out⟩, ⟨tB⟩⟩
       ·rw [if_neg c12] at H
        exact absurd H (by simp)
      ·rw [if_neg c10] at H
       exact absurd H (by simp)
     ·rw [if_neg c9] at H
      have c9b0 := decide_eq_false c9
      clear c9
      obtain rfl := Option.some.inj H
      go_wp2
      go_ret
      exact ⟨_, by first | rfl | (simp [errW_none, errW_some] <;> rfl) | (simp [*, errW_none, errW_some] <;> rfl), by (with_reducible repeat (first | apply Kd.R_alloc | apply Kd.R_drewN | apply Kd.R_drew)); exact Kd.R_mono HO_4.out (fun _ hk => trivial), tB⟩
  ·rw [if_neg c4] at H
   exact absurd H (by simp)
 ·rw [if_neg c3] at H
  exact absurd H (by simp)

/-! ### feature_Spectrum: function 50 -/
def feature_Spectrum.f (k : Nat) (l0 : List Int) : Option (List Int × Int) := (feature_possible.f (l0.length : Int)).bind fun t101 => (if t101 = true then ((feature_within.f l0 65536).bind fun t102 => (if t102 = true then ((feature_spectrum.f k l0).bind fun t103 => (some (t103, 0))) else (some (([] : List Int), 2)))) else (some (([] : List Int), 2)))
theorem feature_Spectrum.mono : ∀ a0 k, LeO (feature_Spectrum.f k a0) (feature_Spectrum.f (k + 1) a0) := by
 intro a0 k
 unfold feature_Spectrum.f
 repeat' first
   | (with_reducible exact feature_spectrum.mono _ _)
   | (with_reducible exact LeO.refl _)
   | (with_reducible exact LeO.none _)
   | (with_reducible refine LeO.ite ?_ ?_)
   | (with_reducible refine LeO.bind ?_ (fun _ => ?_))
   | exact feature_spectrum.mono _ _
   | exact LeO.none _
   | refine LeO.ite ?_ ?_
   | refine LeO.bind ?_ (fun _ => ?_)
set_option maxHeartbeats 8000000 in
set_option maxRecDepth 100000 in
theorem feature_Spectrum.calls (k : Nat) (A0 : Option Addr) (c0 : Nat) (l0 : List Int) (r1 : List Int) (r2 : Int) (w : World) (ht : Kd.C (Kd.int .i64) w (some ⟨0, 0, none⟩) 65 tabL) (hr0 : Kd.C (Kd.int .i64) w A0 l0.length l0) (hc0 : l0.length ≤ c0) (h : feature_Spectrum.f k l0 = some (r1, r2)) :
  Calls Tryd.prog 50 #[.slice A0 l0.length c0] w fun e w' => ∃ v0_ : Value, e = .returned (.tuple #[v0_, .int .i64 r2]) ∧ Kd.R (Kd.int .i64) 3 w' w.heap.size (fun _ => True) v0_ r1 ∧ Below w.heap.size w w' := by
 have HRT := Aside0.mk ht
 clear ht
 have HR0 := Aside0.mk hr0
 have HC0 := Aside0.mk hc0
 clear hr0 hc0
 have HB := Aside0.mk (Below.refl w.heap.size w)
 have H : ((feature_possible.f (l0.length : Int)).bind fun t101 => (if t101 = true then ((feature_within.f l0 65536).bind fun t102 => (if t102 = true then ((feature_spectrum.f k l0).bind fun t103 => (some (t103, 0))) else (some (([] : List Int), 2)))) else (some (([] : List Int), 2)))) = some (r1, r2) := h
 clear h
 replace H := Option.bind_eq_some_iff.mp H
 obtain ⟨t101, A20, H⟩ := H
 try dsimp only at H
 have A2 := Aside0.mk A20
 clear A20
 by_cases c3 : t101 = true
 ·subst c3
  have H1 : ((feature_within.f l0 65536).bind fun t102 => (if t102 = true then ((feature_spectrum.f k l0).bind fun t103 => (some (t103, 0))) else (some (([] : List Int), 2)))) = some (r1, r2) := by rw [if_pos rfl] at H; exact H
  clear H
  have H := H1
  clear H1
  replace H := Option.bind_eq_some_iff.mp H
  obtain ⟨t102, A40, H⟩ := H
  try dsimp only at H
  have A4 := Aside0.mk A40
  clear A40
  by_cases c5 : t102 = true
  ·subst c5
   have H1 : ((feature_spectrum.f k l0).bind fun t103 => (some (t103, 0))) = some (r1, r2) := by rw [if_pos rfl] at H; exact H
   clear H
   have H := H1
   clear H1
   replace H := Option.bind_eq_some_iff.mp H
   obtain ⟨t103, A60, H⟩ := H
   try dsimp only at H
   have A6 := Aside0.mk A60
   clear A60
   simp only [Option.some.injEq, Prod.mk.injEq] at H
   obtain ⟨rfl, rfl⟩ := H
   go_enter Tryd.func50, Tryd.ntmps50
   go_wp2_with (first | ((with_reducible refine gate_callee (f := 79) rfl ?_); refine goesL_ (some 6) rfl rfl Tryd.func79 (by kernel_rfl) rfl #[.int .i64 (l0.length : Int)] rfl tL ?_; (with_reducible refine (feature_possible.calls (l0.length : Int) true _ A2.out).mono ?_); rintro e w' ⟨rfl, ⟨nd, rfl⟩⟩; refine ⟨_, rfl, ?_⟩) | (go_at_call 80; (with_reducible refine (feature_within.calls _ _ l0 65536 true _ ?side1 ?side2 A4.out).mono ?_); (case side1 => exact tC HR0.out); (case side2 => exact HC0.out); rintro e w7 ⟨rfl, hb⟩; have n0_ := Aside0.mk (below_step tB hb); clear HB; have HB := n0_; clear n0_; (try clear hb); (try clear hb2); (try clear hk); (try clear hi)) | ((with_reducible refine gate_callee (f := 112) rfl ?_); refine goesL_ (some 14) rfl rfl Tryd.func112 (by kernel_rfl) rfl #[.slice A0 l0.length c0] rfl tL ?_; (with_reducible refine (feature_spectrum.calls k _ _ l0 t103 _ ?side3 ?side1 ?side2 A6.out).mono ?_); (case side1 => exact tC (Kd.C_below HR0.out HB.out)); (case side2 => exact HC0.out); (case side3 => exact tC (Kd.C_below HRT.out HB.out)); rintro e w8 ⟨v104, rfl, ho0, hb⟩; refine ⟨_, rfl, ?_⟩; have n0_ := Aside0.mk (Kd.R_lower ho0 (below_size tB)); have n1_ := Aside0.mk (below_step tB hb); clear HB; have HO105 := n0_; have HB := n1_; clear n0_ n1_; (try clear hb); (try clear hb2); (try clear hk); (try clear hi); (try clear ho0)))
   go_ret2
   exact ⟨_, by first | rfl | (simp [errW_none, errW_some] <;> rfl) | (simp [*, errW_none, errW_some] <;> rfl), tR HO105.out, tB⟩
  ·replace c5 := Bool.eq_false_iff.mpr c5
   subst c5
   have H1 : (some (([] : List Int), 2)) = some (r1, r2) := by rw [if_neg (show ¬ (false = true) by decide)] at H; exact H
   clear H
   have H := H1
   clear H1
   simp only [Option.some.injEq, Prod.mk.injEq] at H
   obtain ⟨rfl, rfl⟩ := H
   go_enter Tryd.func50, Tryd.ntmps50
   go_wp2_with (first | ((with_reducible refine gate_callee (f := 79) rfl ?_); refine goesL_ (some 6) rfl rfl Tryd.func79 (by kernel_rfl) rfl #[.int .i64 (l0.length : Int)] rfl tL ?_; (with_reducible refine (feature_possible.calls (l0.length : Int) true _ A2.out).mono ?_); rintro e w' ⟨rfl, ⟨nd, rfl⟩⟩; refine ⟨_, rfl, ?_⟩) | (go_at_call 80; (with_reducible refine (feature_within.calls _ _ l0 65536 false _ ?side1 ?side2 A4.out).mono ?_); (case side1 => exact tC HR0.out); (case side2 => exact HC0.out); rintro e w9 ⟨rfl, hb⟩; have n0_ := Aside0.mk (below_step tB hb); clear HB; have HB := n0_; clear n0_; (try clear hb); (try clear hb2); (try clear hk); (try clear hi)))
   go_ret2
   exact ⟨_, by first | rfl | (simp [errW_none, errW_some] <;> rfl) | (simp [*, errW_none, errW_some] <;> rfl), by first | exact Kd.R_nil _ _ _ _ _ | exact Kd.N_nil _ _ _ _ _ | exact Kd.V_nil _ _ _ _ _ | exact Kd.Q_nil _ _ _ _ _ | exact Kd.S_nil _ _ _ _ _, tB⟩
 ·replace c3 := Bool.eq_false_iff.mpr c3
  subst c3
  have H1 : (some (([] : List Int), 2)) = some (r1, r2) := by rw [if_neg (show ¬ (false = true) by decide)] at H; exact H
  clear H
  have H := H1
  clear H1
  simp only [Option.some.injEq, Prod.mk.injEq] at H
  obtain ⟨rfl, rfl⟩ := H
  go_enter Tryd.func50, Tryd.ntmps50
  go_wp2_with (first | ((with_reducible refine gate_callee (f := 79) rfl ?_); refine goesL_ (some 6) rfl rfl Tryd.func79 (by kernel_rfl) rfl #[.int .i64 (l0.length : Int)] rfl tL ?_; (with_reducible refine (feature_possible.calls (l0.length : Int) false _ A2.out).mono ?_); rintro e w' ⟨rfl, ⟨nd, rfl⟩⟩; refine ⟨_, rfl, ?_⟩))
  go_ret2
  exact ⟨_, by first | rfl | (simp [errW_none, errW_some] <;> rfl) | (simp [*, errW_none, errW_some] <;> rfl), by first | exact Kd.R_nil _ _ _ _ _ | exact Kd.N_nil _ _ _ _ _ | exact Kd.V_nil _ _ _ _ _ | exact Kd.Q_nil _ _ _ _ _ | exact Kd.S_nil _ _ _ _ _, tB⟩

end Go.Proofs.YtdlbmbijobcljaaDoor.X

namespace Go.Proofs.YtdlbmbijobcljaaDoor.Pure
open Go.RowKit Go.Proofs.YtdlbmbijobcljaaDoor.X Go.Proofs.YtdlbmbijobcljaaDoorW.PrintWords Go.Proofs.YtdlbmbijobcljaaDoorW.PrintLast
set_option linter.unusedVariables false
set_option linter.unusedSimpArgs false
set_option linter.unusedSectionVars false
theorem rounded_eq : ∀ (k : Nat) (x d : Int), feature_rounded.f k x d = earshotref02_Round.f k x d := by
  intro k
  induction k with
  | zero => intro x d; rfl
  | succ k ih =>
    intro x d
    simp only [feature_rounded.f, earshotref02_Round.f, ih]
theorem rounded_ev (x d : Int) (hx0 : -4611686018427387903 ≤ x) (hx1 : x ≤ 4611686018427387903) (hd : 0 < d) (hd1 : d ≤ 1099511627776) (hs0 : -(2 * x) + d ≤ 9223372036854775807) (hs : 2 * x + d ≤ 9223372036854775807) : Ev (fun k => feature_rounded.f k x d) (rnd x d) :=
  Ev.congr (fun k => rounded_eq k x d) (round_ev x d hx0 hx1 hd hd1 hs0 hs)
/-- The first j numbers rounded, the others as in t. -/
def spList (s t : List Int) (j : Nat) : List Int := (List.range j).map (fun (i : Nat) => rnd (rd s (i : Int)) 16384) ++ t.drop j
theorem spList_length (s t : List Int) (j : Nat) (h : j ≤ t.length) : (spList s t j).length = t.length := by simp [spList]; omega
theorem spList_set (s t : List Int) (j : Nat) (h : j < t.length) : (spList s t j).set j (rnd (rd s (j : Int)) 16384) = spList s t (j + 1) := by
  unfold spList
  rw [List.range_succ, List.map_append, List.set_append_right _ _ (by simp)]
  simp only [List.length_map, List.length_range, Nat.sub_self, List.map_cons, List.map_nil, List.append_assoc]
  congr 1
  rw [List.drop_eq_getElem_cons h]
  rfl
theorem spList_rd (s : List Int) (j : Nat) (h : j < s.length) : rd (spList s s j) (j : Int) = rd s (j : Int) := by
  unfold spList
  rw [rd_nat, rd_nat, List.getD_eq_getElem?_getD, List.getElem?_append_right (by simp), List.getD_eq_getElem?_getD]
  simp
theorem spList_all (s t : List Int) (h : t.length = s.length) : spList s t s.length = spList s s s.length := by
  unfold spList
  rw [List.drop_of_length_le (by omega), List.drop_of_length_le (Nat.le_refl _)]
section
variable (s : List Int) (hs : ∀ x ∈ s, -1099511627776 ≤ x ∧ x ≤ 1099511627776) (hl : s.length ≤ 4611686018427387903)
include hs hl
theorem sp_loop : ∀ r j : Nat, j + r = s.length → Ev (fun k => feature_spectrum.l0 k (spList s s j) (s.length : Int) (j : Int)) (spList s s s.length) := by
  intro r
  induction r with
  | zero =>
    intro j hj
    refine Ev.step (f := fun _ => some (spList s s s.length)) (fun k => ?_) (Ev.now _)
    simp only [feature_spectrum.l0]
    rw [if_neg (by omega), show j = s.length by omega]
  | succ r ih =>
    intro j hj
    have h1 := ih (j + 1) (by omega)
    rw [← spList_set s s j (by omega)] at h1
    have hb := rd_bound s 1099511627776 (by omega) hs (j : Int)
    refine Ev.step (f := fun k => (feature_rounded.f k (rd s (j : Int)) 16384).bind fun t105 => feature_spectrum.l0 k ((spList s s j).set j t105) (s.length : Int) ((j + 1 : Nat) : Int)) (fun k => ?_) (Ev.bind (rounded_ev _ _ (by omega) (by omega) (by omega) (by omega) (by omega) (by omega)) h1)
    simp only [feature_spectrum.l0]
    rw [if_pos (by omega), if_pos (by omega), if_pos (by rw [spList_length _ _ _ (by omega)]; omega), spList_rd s j (by omega), w64 (by omega) (by omega), Int.toNat_natCast]
    rfl
theorem sp_loop' (t : List Int) (ht : t.length = s.length) : ∀ r j : Nat, j + r = s.length → Ev (fun k => earshotref03_Spectrum.l0 k s (spList s t j) (j : Int)) (spList s s s.length) := by
  intro r
  induction r with
  | zero =>
    intro j hj
    refine Ev.step (f := fun _ => some (spList s s s.length)) (fun k => ?_) (Ev.now _)
    simp only [earshotref03_Spectrum.l0]
    rw [if_neg (by omega), show j = s.length by omega, spList_all s t ht]
  | succ r ih =>
    intro j hj
    have h1 := ih (j + 1) (by omega)
    rw [← spList_set s t j (by omega)] at h1
    have hb := rd_bound s 1099511627776 (by omega) hs (j : Int)
    refine Ev.step (f := fun k => (earshotref02_Round.f k (rd s (j : Int)) 16384).bind fun t108 => earshotref03_Spectrum.l0 k s ((spList s t j).set j t108) ((j + 1 : Nat) : Int)) (fun k => ?_) (Ev.bind (round_ev _ _ (by omega) (by omega) (by omega) (by omega) (by omega) (by omega)) h1)
    simp only [earshotref03_Spectrum.l0]
    rw [if_pos (by omega), if_pos (by omega)]
    congr 1
    funext t108
    rw [if_pos (by rw [spList_length _ _ _ (by omega)]; omega), w64 (by omega) (by omega), Int.toNat_natCast]
    rfl
end
theorem trList_bound (l : List Int) (n : Nat) (hn : n ≤ 64) (h : ∀ x ∈ l, -65536 ≤ x ∧ x ≤ 65536) : ∀ x ∈ trList l n n, -1099511627776 ≤ x ∧ x ≤ 1099511627776 := by
  intro x hx
  simp only [trList, Nat.sub_self, List.replicate_zero, List.append_nil, List.mem_map, List.mem_range] at hx
  obtain ⟨j, hj, rfl⟩ := hx
  have := trSum_bound l h ((64 : Int) / n) j n
  unfold trAt
  omega
section
variable (l : List Int) (n : Nat) (hn : isLen n = true) (hl : l.length = n) (h : ∀ x ∈ l, -65536 ≤ x ∧ x ≤ 65536)
include hn hl h
theorem spectrum_ev : Ev (fun k => feature_spectrum.f k l) (spList (trList l n n) (trList l n n) n) := by
  obtain ⟨n0, n1, n2, n3, n4⟩ := isLen_dvd n hn
  have hL := trList_length l n n (Nat.le_refl _)
  have e := sp_loop (trList l n n) (trList_bound l n n1 h) (by omega) n 0 (by omega)
  rw [hL] at e
  refine Ev.congr (f := fun k => (feature_transform.f k l).bind fun t101 => feature_spectrum.l0 k t101 (t101.length : Int) 0) (fun k => rfl) (Ev.bind (transform_ev l n hn hl h) ?_)
  rw [hL]
  exact e
theorem ref_spectrum_ev : Ev (fun k => earshotref03_Spectrum.f k l) (spList (trList l n n) (trList l n n) n) := by
  obtain ⟨n0, n1, n2, n3, n4⟩ := isLen_dvd n hn
  have hL := trList_length l n n (Nat.le_refl _)
  have e := sp_loop' (trList l n n) (trList_bound l n n1 h) (by omega) (List.replicate n 0) (by simp [hL]) n 0 (by omega)
  rw [hL] at e
  refine Ev.congr (f := fun k => (earshotref03_Transform.f k l).bind fun t101 => (if 0 ≤ (t101.length : Int) then (if ((t101.length : Int) : Int).toNat ≤ 35184372088832 then (earshotref03_Spectrum.l0 k t101 (List.replicate ((t101.length : Int) : Int).toNat 0) 0) else (none)) else (none))) (fun k => rfl) (Ev.bind (ref_transform_ev l n hn hl h) ?_)
  refine Ev.congr (fun k => ?_) e
  rw [hL, if_pos (by omega), if_pos (by omega), Int.toNat_natCast]
  rfl
theorem Spectrum_ok : Ev (fun k => feature_Spectrum.f k l) (spList (trList l n n) (trList l n n) n, 0) := by
  refine Ev.congr (f := fun k => (feature_spectrum.f k l).bind fun t103 => some (t103, 0)) (fun k => ?_) (Ev.bind (spectrum_ev l n hn hl h) (Ev.now _))
  unfold feature_Spectrum.f
  rw [hl, possible_at, hn, Option.bind_some, if_pos rfl, within_ok l n hn hl h, Option.bind_some, if_pos rfl]
end
theorem Spectrum_bad (l : List Int) (h : isLen l.length = false ∨ allIn l (-65536) 65536 = false) (k : Nat) : feature_Spectrum.f k l = some ([], 2) := by
  unfold feature_Spectrum.f
  rw [possible_at, Option.bind_some]
  cases hp : isLen l.length with
  | false => rw [if_neg (by simp)]
  | true =>
    rcases h with h | h
    · rw [hp] at h; cases h
    · rw [if_pos rfl, within_at _ _ (by omega) (by omega), h, Option.bind_some]
      rfl
end Go.Proofs.YtdlbmbijobcljaaDoor.Pure

namespace Go.Proofs.YtdlbmbijobcljaaDoor.X
open Go.RowKit Go.Proofs.YtdlbmbijobcljaaDoorW.PrintWords Go.Proofs.YtdlbmbijobcljaaDoorW.PrintLast Go.Proofs.YtdlbmbijobcljaaDoorW.PrintMore
attribute [local go_sem] max2_int min2_int max_two min_two max_three min_three max_four min_four   -- for this text's walks alone
set_option linter.unusedVariables false
set_option linter.unusedSimpArgs false
/-! ### earshotref03_mean: function 116 -/
mutual
def earshotref03_mean.l0 : Nat → List (List Int) → List Int → Int → Option (List Int)
 | 0, _, _, _ => none
 | k + 1, x0, x3, x4 => if x4 < (x3.length : Int) then (earshotref03_mean.l1 k x0 x3 x4 0) else (some x3)
def earshotref03_mean.l1 : Nat → List (List Int) → List Int → Int → Int → Option (List Int)
 | 0, _, _, _, _ => none
 | k + 1, x0, x3, x4, x5 => if x5 < (x0.length : Int) then (if 0 ≤ x4 then (if x4 < (x3.length : Int) then (if 0 ≤ x5 then (if x4 < ((rd_L2 x0 x5).length : Int) then (earshotref03_mean.l1 k x0 (x3.set (x4 : Int).toNat (wrap64 ((rd x3 x4) + (rd (rd_L2 x0 x5) x4)))) x4 (wrap64 (x5 + 1))) else (none)) else (none)) else (none)) else (none)) else (if 0 ≤ x4 then (if x4 < (x3.length : Int) then ((earshotref02_Round.f k (rd x3 x4) (x0.length : Int)).bind fun t110 => (earshotref03_mean.l0 k x0 (x3.set (x4 : Int).toNat t110) (wrap64 (x4 + 1)))) else (none)) else (none))
end
def earshotref03_mean.f (k : Nat) (l0 : List (List Int)) : Option (List Int) := if 0 < (l0.length : Int) then (if 0 ≤ ((rd_L2 l0 0).length : Int) then (if (((rd_L2 l0 0).length : Int) : Int).toNat ≤ 35184372088832 then (earshotref03_mean.l0 k l0 (List.replicate (((rd_L2 l0 0).length : Int) : Int).toNat 0) 0) else (none)) else (none)) else (none)
theorem earshotref03_mean.mono_l : ∀ k, (∀ y0 y1 y2, LeO (earshotref03_mean.l0 k y0 y1 y2) (earshotref03_mean.l0 (k + 1) y0 y1 y2)) ∧ (∀ y0 y1 y2 y3, LeO (earshotref03_mean.l1 k y0 y1 y2 y3) (earshotref03_mean.l1 (k + 1) y0 y1 y2 y3))
 | 0 => ⟨fun _ _ _ r h => by simp [earshotref03_mean.l0] at h, fun _ _ _ _ r h => by simp [earshotref03_mean.l1] at h⟩
 | k + 1 => by
  obtain ⟨ih0, ih1⟩ := earshotref03_mean.mono_l k
  refine ⟨?_, ?_⟩
  ·intro y0 y1 y2
   unfold earshotref03_mean.l0
   repeat' first
   | (with_reducible exact ih0 _ _ _)
   | (with_reducible exact ih1 _ _ _ _)
   | (with_reducible exact earshotref02_Round.mono _ _ _)
   | (with_reducible exact LeO.refl _)
   | (with_reducible exact LeO.none _)
   | (with_reducible refine LeO.ite ?_ ?_)
   | (with_reducible refine LeO.bind ?_ (fun _ => ?_))
   | exact ih0 _ _ _
   | exact ih1 _ _ _ _
   | exact earshotref02_Round.mono _ _ _
   | exact LeO.none _
   | refine LeO.ite ?_ ?_
   | refine LeO.bind ?_ (fun _ => ?_)
  ·intro y0 y1 y2 y3
   unfold earshotref03_mean.l1
   repeat' first
   | (with_reducible exact ih0 _ _ _)
   | (with_reducible exact ih1 _ _ _ _)
   | (with_reducible exact earshotref02_Round.mono _ _ _)
   | (with_reducible exact LeO.refl _)
   | (with_reducible exact LeO.none _)
   | (with_reducible refine LeO.ite ?_ ?_)
   | (with_reducible refine LeO.bind ?_ (fun _ => ?_))
   | exact ih0 _ _ _
   | exact ih1 _ _ _ _
   | exact earshotref02_Round.mono _ _ _
   | exact LeO.none _
   | refine LeO.ite ?_ ?_
   | refine LeO.bind ?_ (fun _ => ?_)
theorem earshotref03_mean.mono : ∀ a0 k, LeO (earshotref03_mean.f k a0) (earshotref03_mean.f (k + 1) a0) := by
 intro a0 k
 obtain ⟨ih0, ih1⟩ := earshotref03_mean.mono_l k
 unfold earshotref03_mean.f
 repeat' first
   | (with_reducible exact ih0 _ _ _)
   | (with_reducible exact ih1 _ _ _ _)
   | (with_reducible exact earshotref02_Round.mono _ _ _)
   | (with_reducible exact LeO.refl _)
   | (with_reducible exact LeO.none _)
   | (with_reducible refine LeO.ite ?_ ?_)
   | (with_reducible refine LeO.bind ?_ (fun _ => ?_))
   | exact ih0 _ _ _
   | exact ih1 _ _ _ _
   | exact earshotref02_Round.mono _ _ _
   | exact LeO.none _
   | refine LeO.ite ?_ ?_
   | refine LeO.bind ?_ (fun _ => ?_)
def earshotref03_mean.T8 : Bool × List (List Nat × List Nat) := (true, [([], []), ([], []), ([], []), ([], []), ([2, 3], [2, 3]), ([4], [4]), ([], []), ([], []), ([6, 7], [6, 7]), ([8], [8]), ([], []), ([9, 10], [9, 10]), ([11], [11]), ([5, 12], [5, 12]), ([0, 1, 0, 1, 2, 3, 4, 5, 6, 7, 8, 9, 10, 11, 12, 13], [0, 1]), ([14, 13, 0, 1, 2, 3, 4, 5, 6, 7, 8, 9, 10, 11, 12, 13], [13, 14])])
def earshotref03_mean.B8 : List Nat := [0, 0, 0, 0, 12, 28, 0, 0, 192, 448, 0, 1984, 4032, 8188, 16383, 32767]
theorem earshotref03_mean.tab8 : rtab .any (opsOf Tryd.f116 8) = earshotref03_mean.T8 := by kernel_rfl
theorem earshotref03_mean.bits8 : waitsOk earshotref03_mean.T8.2 earshotref03_mean.B8 = true := by kernel_rfl
set_option maxHeartbeats 8000000 in
set_option maxRecDepth 100000 in
theorem earshotref03_mean.calls (k : Nat) (A0 : Option Addr) (c0 : Nat) (l0 : List (List Int)) (r : List Int) (w : World) (hr0 : Kd.C (Kd.slice 3 (Kd.int .i64)) w A0 l0.length l0) (hc0 : l0.length ≤ c0) (h : earshotref03_mean.f k l0 = some r) :
  Calls Tryd.prog 116 #[.slice A0 l0.length c0] w fun e w' => ∃ v0_ : Value, e = .returned (v0_) ∧ Kd.R (Kd.int .i64) 3 w' w.heap.size (fun _ => True) v0_ r ∧ Below w.heap.size w w' := by
 have HR0 := Aside0.mk hr0
 have HC0 := Aside0.mk hc0
 clear hr0 hc0
 have HB := Aside0.mk (Below.refl w.heap.size w)
 have H : (if 0 < (l0.length : Int) then (if 0 ≤ ((rd_L2 l0 0).length : Int) then (if (((rd_L2 l0 0).length : Int) : Int).toNat ≤ 35184372088832 then (earshotref03_mean.l0 k l0 (List.replicate (((rd_L2 l0 0).length : Int) : Int).toNat 0) 0) else (none)) else (none)) else (none)) = some r := h
 clear h
 by_cases c2 : 0 < (l0.length : Int)
 ·rw [if_pos c2] at H
  have c2b0 := decide_eq_true c2
  have c2b1 : decide (0 < l0.length) = true := decide_eq_true (by omega)
  clear c2
  by_cases c3 : 0 ≤ ((rd_L2 l0 0).length : Int)
  ·rw [if_pos c3] at H
   have c3b0 := eq_true c3
   have c3b1 := decide_eq_true c3
   clear c3
   by_cases c4 : (((rd_L2 l0 0).length : Int) : Int).toNat ≤ 35184372088832
   ·rw [if_pos c4] at H
    have c4b0 := eq_true c4
    have c4b1 := decide_eq_true c4
    clear c4
    obtain ⟨y102, hy102⟩ : ∃ y_ : List Int, y_ = (List.replicate (((rd_L2 l0 0).length : Int) : Int).toNat 0) := ⟨_, rfl⟩
    replace H : (earshotref03_mean.l0 k l0 y102 0) = some r := by first | (rw [hy102]; with_reducible exact H) | (have H2_ := (Option.bind_some _ _).symm.trans H; rw [hy102]; with_reducible exact H2_) | (have H2_ := (Option.bind_some _ _).symm.trans H; with_reducible exact H2_) | with_reducible exact H | (rw [hy102]; exact H) | exact H
    have Ny102 := Aside0.mk hy102
    clear hy102
    have H' := Aside0.mk H
    clear H
    have p101 : 0 ≤ (0 : Int) := (by omega)
    have q101 : 0 < (l0.length : Int) := of_decide_eq_true tA
    obtain ⟨ad101, A101_0, c101_0, e101, hx101_0, hl101_0, hi101_0⟩ := at_L2 HR0.out 0 p101 q101
    cases e101
    have qi101 : (0 < l0.length) = True := eq_true (by omega)
    (try rw [show ((0 : Int)).toNat = 0 from rfl] at hx101_0)
    (try rw [Addr.add_zero'] at hx101_0)
    have HR101_0 := Aside0.mk hi101_0
    have HC101_0 := Aside0.mk hl101_0
    clear hi101_0 hl101_0
    replace p101 := eq_true p101
    replace q101 := eq_true q101
    go_enter Tryd.func116, Tryd.ntmps116
    go_wp2_with (first | ((with_reducible refine gate_dst (N := 10) rfl ?_); refine Kd.R_make (Kd.int .i64) _ 3 rfl (N := 10) rfl 22 _ _ rfl ((rd_L2 l0 0).length : Int) rfl rfl Tryd.underlying22 (.int .i64 0) 8 info3 rfl (by decide) (by omega) 0 (ok := fun _ => True) (okp := fun _ => True) rfl (fun _ hk => hk) trivial (of_decide_eq_true tA) (Nat.le_trans (Nat.mul_le_mul_right _ (of_decide_eq_true tA : ((rd_L2 l0 0).length : Int).toNat ≤ 35184372088832)) (by omega)) (Below.refl _ _) (Nat.le_refl _) ?_; intro v103 w5 ho6 hb hg_ hnew_; clear hg_ hnew_; (first | rw [← Ny102.out] at ho6 | (simp only [Int.reduceToNat] at ho6; rw [← Ny102.out] at ho6)); have n0_ := Aside0.mk (Kd.R_lower ho6 (below_size tB)); have n1_ := Aside0.mk (below_step tB hb); clear HB; have HO104 := n0_; have HB := n1_; clear n0_ n1_; clear hb ho6))
    go_loopg [4] k (fun kq v4 w' => ∃ (x3_1 : List Int) (x4_1 : Int), v4 = .int .i64 x4_1 ∧ Aside0 (earshotref03_mean.l0 kq l0 x3_1 x4_1 = some r) ∧ Aside0 (kq ≤ k) ∧ Aside0 (Kd.R (Kd.int .i64) 3 w' w.heap.size (fun _ => True) v103 x3_1) ∧ Aside0 (Below w.heap.size w w'))
    case atStart => exact ⟨(y102), (0), (by first | rfl | (simp; done) | (simp only [i64_w]; done) | (simp [*]; done)), H', ⟨Nat.le_refl _⟩, ⟨tR HO104.out⟩, ⟨tB⟩⟩
    case round =>
     clear H'
     try clear c1
     try clear p1
     try clear q1
     try clear hx1
     try clear qi1
     try clear c2
     try clear c2b0
     try clear c2b1
     try clear p2
     try clear c3
     try clear c3b0
     try clear c3b1
     try clear c4
     try clear c4b0
     try clear c4b1
     try clear hx101_0
     try clear p101
     try clear q101
     obtain ⟨x3_1, x4_1, rfl, HA, HK1, HO_3, HB⟩ := hrel
     cases gk with
     | zero => exact absurd HA.out (by simp [earshotref03_mean.l0])
     | succ k1 =>
      have H := HA.out
      clear HA
      simp only [earshotref03_mean.l0] at H
      by_cases c7 : x4_1 < (x3_1.length : Int)
      ·rw [if_pos c7] at H
       have c7b0 := decide_eq_true c7
       clear c7
       have H' := Aside0.mk H
       clear H
       obtain ⟨Ao8, co8, eo8⟩ := Kd.R_slice HO_3.out
       subst eo8
       go_wp2
       go_loopg [5] k1 (fun kq v5 w' => ∃ (x3_2 : List Int) (x5_2 : Int), v5 = .int .i64 x5_2 ∧ Aside0 (earshotref03_mean.l1 kq l0 x3_2 x4_1 x5_2 = some r) ∧ Aside0 (kq ≤ k1) ∧ Aside0 (Kd.R (Kd.int .i64) 3 w' w.heap.size (fun _ => True) (.slice Ao8 x3_1.length co8) x3_2) ∧ Aside0 (Below w.heap.size w w'))
       case atStart => exact ⟨(x3_1), (0), (by first | rfl | (simp; done) | (simp only [i64_w]; done) | (simp [*]; done)), H', ⟨Nat.le_refl _⟩, ⟨tR HO_3.out⟩, ⟨tB⟩⟩
       case round =>
        clear H'
        try clear c1
        try clear p1
        try clear q1
        try clear hx1
        try clear qi1
        try clear c2
        try clear c2b0
        try clear c2b1
        try clear p2
        try clear c3
        try clear c3b0
        try clear c3b1
        try clear c4
        try clear c4b0
        try clear c4b1
        try clear c7
        try clear c7b0
        try clear hx101_0
        try clear p1
        try clear p101
        try clear p2
        try clear q1
        try clear q101
        obtain ⟨x3_2, x5_2, rfl, HA, HK2, HO_3, HB⟩ := hrel
        have hl3_2 := (Kd.R_reads' HO_3.out).1
        rw [hl3_2] at HO_3
        (try simp only [hl3_2])
        cases gk with
        | zero => exact absurd HA.out (by simp [earshotref03_mean.l1])
        | succ k2 =>
         have H := HA.out
         clear HA
         simp only [earshotref03_mean.l1] at H
         by_cases c9 : x5_2 < (l0.length : Int)
         ·rw [if_pos c9] at H
          have c9b0 := decide_eq_true c9
          (try simp only [hl3_2] at c9b0)
          clear c9
          by_cases c10 : 0 ≤ x4_1
          ·rw [if_pos c10] at H
           have c10b0 := decide_eq_true c10
           clear c10
           by_cases c11 : x4_1 < (x3_2.length : Int)
           ·rw [if_pos c11] at H
            have c11b0 := decide_eq_true c11
            (try simp only [hl3_2] at c11b0)
            clear c11
            by_cases c12 : 0 ≤ x5_2
            ·rw [if_pos c12] at H
             have c12b0 := decide_eq_true c12
             clear c12
             by_cases c13 : x4_1 < ((rd_L2 l0 x5_2).length : Int)
             ·rw [if_pos c13] at H
              have c13b0 := decide_eq_true c13
              (try simp only [hl3_2] at c13b0)
              clear c13
              obtain ⟨y108, hy108⟩ : ∃ y_ : List Int, y_ = (x3_2.set (x4_1 : Int).toNat (wrap64 ((rd x3_2 x4_1) + (rd (rd_L2 l0 x5_2) x4_1)))) := ⟨_, rfl⟩
              replace H : (earshotref03_mean.l1 k2 l0 y108 x4_1 (wrap64 (x5_2 + 1))) = some r := by first | (rw [hy108]; with_reducible exact H) | (have H2_ := (Option.bind_some _ _).symm.trans H; rw [hy108]; with_reducible exact H2_) | (have H2_ := (Option.bind_some _ _).symm.trans H; with_reducible exact H2_) | with_reducible exact H | (rw [hy108]; exact H) | exact H
              have Ny108 := Aside0.mk hy108
              clear hy108
              have H' := Aside0.mk H
              clear H
              try go_wp2
              have n0_ := Aside0.mk (Kd.R_drew HO_3.out)
              have n1_ := Aside0.mk (below_drew1 HB.out)
              clear HO_3
              clear HB
              have HO_3 := n0_
              have HB := n1_
              clear n0_ n1_
              have p105 : 0 ≤ (x4_1 : Int) := of_decide_eq_true tA
              have q105 : x4_1 < (x3_2.length : Int) := of_decide_eq_true tA
              obtain ⟨ad105, e105, hx105_0⟩ := Kd.at_int (Kd.R_reads' HO_3.out).2.2 x4_1 p105 q105
              cases e105
              replace p105 := eq_true p105
              replace q105 := eq_true q105
              have p106 : 0 ≤ (x5_2 : Int) := of_decide_eq_true tA
              have q106 : x5_2 < (l0.length : Int) := of_decide_eq_true tA
              obtain ⟨ad106, A106_0, c106_0, e106, hx106_0, hl106_0, hi106_0⟩ := at_L2 HR0.out x5_2 p106 q106
              have hw106_0 := hx106_0
              obtain rfl : ad101 = ad106 := (by injection e106)
              replace hx106_0 := (HB.out.cell (World.block_lt_of_cell? w _ hx106_0)).trans hx106_0
              have HR106_0 := Aside0.mk hi106_0
              have HC106_0 := Aside0.mk hl106_0
              clear hi106_0 hl106_0
              replace p106 := eq_true p106
              replace q106 := eq_true q106
              have p107 : 0 ≤ (x4_1 : Int) := of_decide_eq_true tA
              have q107 : x4_1 < ((rd_L2 l0 x5_2).length : Int) := of_decide_eq_true tA
              obtain ⟨ad107, e107, hx107_0⟩ := Kd.at_int HR106_0.out x4_1 p107 q107
              have hw107_0 := hx107_0
              cases e107
              replace hx107_0 := (HB.out.cell (World.block_lt_of_cell? w _ hx107_0)).trans hx107_0
              replace p107 := eq_true p107
              replace q107 := eq_true q107
              have p14 : 0 ≤ (x4_1 : Int) := of_decide_eq_true tA
              have q14 : (x4_1 : Int) < ((x3_2.length : Int) : Int) := of_decide_eq_true tA
              obtain ⟨go14, co14, eo14, gb14, gl14, cl14, HG14⟩ := Kd.R_form HO_3.out (by omega)
              (first | cases eo14 | (injection eo14 with ea_ en_ ec_; (first | subst ea_ | (injection ea_ with ea_; subst ea_)); subst ec_; clear en_))
              have GB14 := Aside0.mk gb14
              have GG14 := Aside0.mk HG14
              clear gb14 gl14 HG14
              (first | simp only [add_plain] at hx105_0 | skip)
              obtain ⟨hx14_0, hf14_0⟩ := Kd.R_celln 0 HO_3.out (x4_1 : Int) p14 q14
              replace p14 := eq_true p14
              replace q14 := eq_true q14
              have HP16 := Kd.R_putn HO_3.out (x4_1 : Int) (wrap64 ((rd x3_2 x4_1) + (rd (rd_L2 l0 x5_2) x4_1)))
              rw [← Ny108.out] at HP16
              have HQ16 := Aside0.mk HP16
              clear HP16
              refine start_ (n := 16) (S := fun w' => w'.cell? ⟨go14, (x4_1).toNat, none⟩ = some (.int .i64 (rd x3_2 x4_1)) ∧ w'.cell? (ad101.add (x5_2).toNat) = some (.slice (some ad107) (rd_L2 l0 x5_2).length c106_0) ∧ w'.cell? (ad107.add (x4_1).toNat) = some (.int .i64 (rd (rd_L2 l0 x5_2) x4_1))) (ds := [15]) #[false, false, false, false, false, false, false, false, false, false, false, false, false, false, false, false] (by kernel_rfl) rfl rfl ⟨hx105_0, ((HB.out.cell (World.block_lt_of_cell? w _ hw106_0)).trans hw106_0), ((HB.out.cell (World.block_lt_of_cell? w _ hw107_0)).trans hw107_0)⟩ (fun hHeld => ?_); refine with_tabW earshotref03_mean.tab8 earshotref03_mean.bits8 (fun HT_ HW_ => ?_)
              generalize wr.drew = w15 at HO_3 HB GG14 HQ16 HR106_0 hf14_0 hx105_0 hx106_0 hx107_0 hx14_0 hHeld ⊢
              refine pI 0 (some 23) (bm 1 16) HT_.out ?_
              refine pI 1 (some 24) (bm 2 16) HT_.out ?_
              refine pI 2 (some 25) (bm 3 16) HT_.out ?_
              refine pI 3 (some 26) (bm 4 16) HT_.out ?_
              refine pI 4 (some 27) (bm 5 16) HT_.out ?_
              refine pure_ (i := 6) (N := some 29) (v := ?_) (a' := ?_) #[true, true, true, true, true, false, true, false, false, false, false, false, false, false, false, false] rfl rfl (any_of HT_.out (by kernel_rfl)) (fun _ _ _ h => h) (Or.inl ⟨by rfl, ?_⟩) ?_ ?_
              rotate_left
              ·intro w'
               go_simp
               with_reducible rfl
              rotate_left
              ·simp only [Act.put, List.setIfInBounds_toArray, List.set_cons_zero, List.set_cons_succ, i64_w, i32_w]
               rfl
              refine pure_ (i := 7) (N := some 30) (v := ?_) (a' := ?_) #[true, true, true, true, true, false, true, true, false, false, false, false, false, false, false, false] rfl rfl (any_of HT_.out (by kernel_rfl)) (fun _ _ _ h => h) (Or.inl ⟨by rfl, ?_⟩) ?_ ?_
              rotate_left
              ·intro w'
               go_simp
               with_reducible rfl
              rotate_left
              ·simp only [Act.put, List.setIfInBounds_toArray, List.set_cons_zero, List.set_cons_succ, i64_w, i32_w]
               rfl
              refine pure_ (i := 8) (N := some 31) (v := ?_) (a' := ?_) #[true, true, true, true, true, false, true, true, true, false, false, false, false, false, false, false] rfl rfl (any_of HT_.out (by kernel_rfl)) (fun _ _ _ h => h) (Or.inl ⟨by rfl, ?_⟩) ?_ ?_
              rotate_left
              ·intro w'
               go_simp
               with_reducible rfl
              rotate_left
              ·simp only [Act.put, List.setIfInBounds_toArray, List.set_cons_zero, List.set_cons_succ, i64_w, i32_w]
               rfl
              refine pure_ (i := 10) (N := some 33) (v := ?_) (a' := ?_) #[true, true, true, true, true, false, true, true, true, false, true, false, false, false, false, false] rfl rfl (any_of HT_.out (by kernel_rfl)) (fun _ _ _ h => h) (Or.inl ⟨by rfl, ?_⟩) ?_ ?_
              rotate_left
              ·intro w'
               go_simp
               with_reducible rfl
              rotate_left
              ·simp only [Act.put, List.setIfInBounds_toArray, List.set_cons_zero, List.set_cons_succ, i64_w, i32_w]
               rfl
              refine take_ (i := 5) (N := some 28) (v := ?_) (a' := ?_) #[true, true, true, true, true, true, true, true, true, false, true, false, false, false, false, false] rfl rfl (take_ofW HT_.out HW_.out (by kernel_rfl)) (fun _ _ _ h => h) (Or.inl ⟨by rfl, ?_⟩) hHeld ?_ ?_
              rotate_left
              ·rintro w' ⟨s0, s1, s2⟩
               go_simp
               with_reducible rfl
              rotate_left
              ·simp only [Act.put, List.setIfInBounds_toArray, List.set_cons_zero, List.set_cons_succ, i64_w, i32_w]
               rfl
              refine tk3 9 (some 32) (bm 11 16) HT_.out HW_.out hHeld ?_
              refine pI 11 (some 34) (bm 12 16) HT_.out ?_
              refine tk3 12 (some 35) (bm 13 16) HT_.out HW_.out hHeld ?_
              refine pI 13 (some 36) (bm 14 16) HT_.out ?_
              refine pI 14 (some 37) (bm 15 16) HT_.out ?_
              refine last_ (i := 15) (N := none) #[true, true, true, true, true, true, true, true, true, true, true, true, true, true, true, true] rfl rfl (one_of HT_.out (by kernel_rfl)) (by decide) (fun K hK => ?_)
              refine skip_ (w1 := ?_) (by rfl) rfl ?_ ?_
              rotate_left
              ·go_simp
               rfl
              refine hK.out _ _ ?_
              clear hK K
              refine done_ (done_of HT_.out (by kernel_rfl)) ?_
              try go_wp2
              (try simp only [← hl3_2])
              go_roundg k2
              case measure => have := HK1.out; have := HK2.out; omega
              case rel => exact ⟨(y108), (wrap64 (x5_2 + 1)), (by first | rfl | (simp; done) | (simp only [i64_w]; done) | (simp [*]; done)), H', ⟨by have := HK1.out; have := HK2.out; omega⟩, ⟨by (try simp only [hl3_2]); exact tR HQ16.out⟩, ⟨by repeat (first | (with_reducible first | exact HB.out | apply below_alloc | apply pw_below_drewN | apply below_drew1 | refine below_set ?_ GB14.out) | exact HB.out)⟩⟩
             ·rw [if_neg c13] at H
              exact absurd H (by simp)
            ·rw [if_neg c12] at H
             exact absurd H (by simp)
           ·rw [if_neg c11] at H
            exact absurd H (by simp)
          ·rw [if_neg c10] at H
           exact absurd H (by simp)
         ·rw [if_neg c9] at H
          have c9b0 := decide_eq_false c9
          (try simp only [hl3_2] at c9b0)
          clear c9
          by_cases c17 : 0 ≤ x4_1
          ·rw [if_pos c17] at H
           have c17b0 := decide_eq_true c17
           clear c17
           by_cases c18 : x4_1 < (x3_2.length : Int)
           ·rw [if_pos c18] at H
            have c18b0 := decide_eq_true c18
            (try simp only [hl3_2] at c18b0)
            clear c18
            replace H := Option.bind_eq_some_iff.mp H
            obtain ⟨t110, A190, H⟩ := H
            try dsimp only at H
            have A19 := Aside0.mk A190
            clear A190
            obtain ⟨y111, hy111⟩ : ∃ y_ : List Int, y_ = (x3_2.set (x4_1 : Int).toNat t110) := ⟨_, rfl⟩
            replace H : (earshotref03_mean.l0 k2 l0 y111 (wrap64 (x4_1 + 1))) = some r := by first | (rw [hy111]; with_reducible exact H) | (have H2_ := (Option.bind_some _ _).symm.trans H; rw [hy111]; with_reducible exact H2_) | (have H2_ := (Option.bind_some _ _).symm.trans H; with_reducible exact H2_) | with_reducible exact H | (rw [hy111]; exact H) | exact H
            have Ny111 := Aside0.mk hy111
            clear hy111
            have H' := Aside0.mk H
            clear H
            have p109 : 0 ≤ (x4_1 : Int) := of_decide_eq_true tA
            have q109 : x4_1 < (x3_2.length : Int) := of_decide_eq_true tA
            obtain ⟨ad109, e109, hx109_0⟩ := Kd.at_int (Kd.R_reads' HO_3.out).2.2 x4_1 p109 q109
            cases e109
            replace p109 := eq_true p109
            replace q109 := eq_true q109
            go_wp2_with (first | ((with_reducible refine gate_callee (f := 83) rfl ?_); refine goesL_ (some 46) rfl rfl Tryd.func83 (by kernel_rfl) rfl #[.int .i64 (rd x3_2 x4_1), .int .i64 (l0.length : Int)] rfl tL ?_; (with_reducible refine (earshotref02_Round.calls k2 (rd x3_2 x4_1) (l0.length : Int) t110 _ A19.out).mono ?_); rintro e w' ⟨rfl, ⟨nd, rfl⟩⟩; refine ⟨_, rfl, ?_⟩; (try (rw [drewN_self wr]; generalize hq_ : World.drewN wr _ = wr; have n0_ : Aside0 (Kd.R (Kd.int .i64) 3 wr w.heap.size (fun _ => True) (.slice (some ad109) x3_2.length co8) x3_2) := ⟨by rw [← hq_]; exact (tR HO_3.out)⟩; have n1_ : Aside0 (Below w.heap.size w wr) := ⟨by rw [← hq_]; exact tB⟩; clear HO_3 HB hq_; have HO_3 := n0_; have HB := n1_; clear n0_ n1_)); have p20 : 0 ≤ (x4_1 : Int) := of_decide_eq_true tA; have q20 : (x4_1 : Int) < ((x3_2.length : Int) : Int) := of_decide_eq_true tA; obtain ⟨go20, co20, eo20, gb20, gl20, cl20, HG20⟩ := Kd.R_form HO_3.out (by omega); (first | cases eo20 | (injection eo20 with ea_ en_ ec_; (first | subst ea_ | (injection ea_ with ea_; subst ea_)); subst ec_; clear en_)); have GB20 := Aside0.mk gb20; have GG20 := Aside0.mk HG20; clear gb20 gl20 HG20; (first | simp only [add_plain] at hx109_0 | skip); obtain ⟨hx20_0, hf20_0⟩ := Kd.R_celln 0 HO_3.out (x4_1 : Int) p20 q20; replace p20 := eq_true p20; replace q20 := eq_true q20; obtain ⟨hy21_, hz21_⟩ := Kd.R_celln 0 HO_3.out (x4_1 : Int) (of_decide_eq_true tA) (of_decide_eq_true tA); have HP21 := Kd.R_putg HO_3.out (x4_1 : Int) t110) | ((with_reducible refine gate_store (t := 3) (p := 47) rfl ?_); refine store_event (t := 3) (p := 47) (v := ?vo_w22) (w1 := (wr.setCell ⟨go20, (x4_1 : Int).toNat, none⟩ (.int .i64 t110))) ?hg ?ho ?hn ?hr ?_; (case ho => rfl); (case hg => rfl); (case hn => rfl); (case hr => first | (go_simp; done) | (go_simp; rfl)); intro w22 hw; have hg : wr.grownBy w22 (some go20) := (by rw [hw]; exact HP21.2); have hp_ : Kd.R (Kd.int .i64) 3 w22 w.heap.size (fun _ => True) (.slice (some ⟨go20, 0, none⟩) x3_2.length co8) y111 := (by rw [hw, Ny111.out]; exact HP21.1); clear HP21; have n0_ := Aside0.mk (hp_); have n1_ := Aside0.mk ((by rw [hw]; exact below_set (HB.out) GB20.out : Below w.heap.size w w22)); clear HO_3; clear HB; have HO_3 := n0_; have HB := n1_; clear n0_ n1_; clear hg hw hp_))
            (try simp only [← hl3_2])
            go_roundg k2
            case measure => have := HK1.out; have := HK2.out; omega
            case rel => exact ⟨(y111), (wrap64 (x4_1 + 1)), (by first | rfl | (simp; done) | (simp only [i64_w]; done) | (simp [*]; done)), H', ⟨by have := HK1.out; have := HK2.out; omega⟩, ⟨by (try simp only [hl3_2]); exact tR HO_3.out⟩, ⟨tB⟩⟩
           ·rw [if_neg c18] at H
            exact absurd H (by simp)
          ·rw [if_neg c17] at H
           exact absurd H (by simp)
      ·rw [if_neg c7] at H
       have c7b0 := decide_eq_false c7
       clear c7
       obtain rfl := Option.some.inj H
       obtain ⟨Ao23, co23, eo23⟩ := Kd.R_slice HO_3.out
       subst eo23
       go_wp2
       go_ret
       exact ⟨_, by first | rfl | (simp [errW_none, errW_some] <;> rfl) | (simp [*, errW_none, errW_some] <;> rfl), tR HO_3.out, tB⟩
   ·rw [if_neg c4] at H
    exact absurd H (by simp)
  ·rw [if_neg c3] at H
   exact absurd H (by simp)
 ·rw [if_neg c2] at H
  exact absurd H (by simp)

end Go.Proofs.YtdlbmbijobcljaaDoor.X

namespace Go.Proofs.YtdlbmbijobcljaaDoor.Pure
open Go.RowKit Go.Proofs.YtdlbmbijobcljaaDoor.X Go.Proofs.YtdlbmbijobcljaaDoorW.PrintWords Go.Proofs.YtdlbmbijobcljaaDoorW.PrintLast Go.Proofs.YtdlbmbijobcljaaDoorW.PrintMore
set_option linter.unusedVariables false
set_option linter.unusedSimpArgs false
set_option linter.unusedSectionVars false
/-- A sum over a list. -/
def sumL {α : Type} (f : α → Int) : List α → Int
  | [] => 0
  | x :: xs => f x + sumL f xs
theorem sumL_append {α : Type} (f : α → Int) (l m : List α) : sumL f (l ++ m) = sumL f l + sumL f m := by
  induction l with
  | nil => simp [sumL]
  | cons x xs ih => simp only [List.cons_append, sumL, ih]; omega
theorem sumL_take {α : Type} (f : α → Int) (l : List α) (j : Nat) (h : j < l.length) : sumL f (l.take (j + 1)) = sumL f (l.take j) + f l[j] := by
  rw [List.take_succ_eq_append_getElem h, sumL_append]
  simp [sumL]
theorem sumL_bound {α : Type} (f : α → Int) (B : Int) (l : List α) (h : ∀ x ∈ l, -B ≤ f x ∧ f x ≤ B) : -(B * (l.length : Int)) ≤ sumL f l ∧ sumL f l ≤ B * (l.length : Int) := by
  induction l with
  | nil => simp [sumL]
  | cons x xs ih =>
    have h1 := ih (fun y hy => h y (List.mem_cons_of_mem _ hy))
    have h2 := h x List.mem_cons_self
    simp only [sumL, List.length_cons]
    have e : B * ((xs.length + 1 : Nat) : Int) = B * (xs.length : Int) + B := by rw [Int.natCast_add, Int.mul_add]; simp
    omega
theorem sumL_congr {α : Type} (f g : α → Int) (l : List α) (h : ∀ x ∈ l, f x = g x) : sumL f l = sumL g l := by
  induction l with
  | nil => rfl
  | cons x xs ih => simp only [sumL, h x List.mem_cons_self, ih (fun y hy => h y (List.mem_cons_of_mem _ hy))]
/-- The first j elements as f says, the others as in s. -/
def mapTo (f : Nat → Int) (s : List Int) (j : Nat) : List Int := (List.range j).map f ++ s.drop j
theorem mapTo_length (f : Nat → Int) (s : List Int) (j : Nat) (h : j ≤ s.length) : (mapTo f s j).length = s.length := by simp [mapTo]; omega
theorem mapTo_set (f : Nat → Int) (s : List Int) (j : Nat) (h : j < s.length) : (mapTo f s j).set j (f j) = mapTo f s (j + 1) := by
  unfold mapTo
  rw [List.range_succ, List.map_append, List.set_append_right _ _ (by simp)]
  simp only [List.length_map, List.length_range, Nat.sub_self, List.map_cons, List.map_nil, List.append_assoc]
  congr 1
  rw [List.drop_eq_getElem_cons h]
  rfl
theorem mapTo_rd (f : Nat → Int) (s : List Int) (j : Nat) (h : j < s.length) : rd (mapTo f s j) (j : Int) = rd s (j : Int) := by
  unfold mapTo
  rw [rd_nat, rd_nat, List.getD_eq_getElem?_getD, List.getElem?_append_right (by simp), List.getD_eq_getElem?_getD]
  simp
theorem mapTo_all (f : Nat → Int) (s : List Int) : mapTo f s s.length = (List.range s.length).map f := by
  unfold mapTo
  rw [List.drop_length, List.append_nil]
theorem mapTo_set0 (f : Nat → Int) (c j : Nat) (h : j < c) : (mapTo f (List.replicate c 0) j).set j 0 = mapTo f (List.replicate c 0) j := by
  unfold mapTo
  rw [List.set_append_right _ _ (by simp)]
  simp only [List.length_map, List.length_range, Nat.sub_self]
  congr 1
  rw [List.drop_replicate]
  obtain ⟨d, e⟩ : ∃ d, c - j = d + 1 := ⟨c - j - 1, by omega⟩
  rw [e, List.replicate_succ]
  rfl
theorem rd_lt (l : List Int) (j : Nat) (h : j < l.length) : rd l (j : Int) = l[j] := by rw [rd_nat, List.getD_eq_getElem?_getD, List.getElem?_eq_getElem h]; rfl
theorem range_map_snoc {α : Type} (f : Nat → α) (j : Nat) : (List.range j).map f ++ [f j] = (List.range (j + 1)).map f := by rw [List.range_succ, List.map_append]; rfl
/-- The mean of vectors. -/
def meanOf (v : List (List Int)) : List Int := (List.range (v.getD 0 []).length).map fun (i : Nat) => rnd (sumL (fun x => rd x (i : Int)) v) (v.length : Int)
section
variable (v : List (List Int)) (c : Nat) (hv1 : 1 ≤ v.length) (hv : v.length ≤ 20000) (hc : ∀ x ∈ v, x.length = c) (hc64 : c ≤ 64) (hb : ∀ x ∈ v, ∀ y ∈ x, -1048576 ≤ y ∧ y ≤ 1048576)
include hv1 hv hc hc64 hb
theorem col_bound (i j : Nat) : -(1048576 * (j : Int)) ≤ sumL (fun x => rd x (i : Int)) (v.take j) ∧ sumL (fun x => rd x (i : Int)) (v.take j) ≤ 1048576 * (j : Int) := by
  have h1 := sumL_bound (fun x => rd x (i : Int)) 1048576 (v.take j) (fun x hx => rd_bound x 1048576 (by omega) (hb x (List.mem_of_mem_take hx)) i)
  have h2 : (v.take j).length ≤ j := List.length_take_le _ _
  omega
theorem zip_step (j : Nat) (h : j < v.length) : List.zipWith opAdd ((List.range c).map fun (i : Nat) => sumL (fun x => rd x (i : Int)) (v.take j)) v[j] = (List.range c).map fun (i : Nat) => sumL (fun x => rd x (i : Int)) (v.take (j + 1)) := by
  have hl := hc v[j] (List.getElem_mem h)
  apply List.ext_getElem
  · simp [hl]
  · intro i h1 h2
    have hi : i < c := by simpa using h2
    rw [List.getElem_zipWith, List.getElem_map, List.getElem_map, List.getElem_range, sumL_take _ _ _ h, rd_lt _ _ (by omega)]
    unfold opAdd
    have b1 := col_bound v c hv1 hv hc hc64 hb i j
    have b2 := hb v[j] (List.getElem_mem h) (v[j][i]'(by omega)) (List.getElem_mem _)
    rw [w64 (by omega) (by omega)]
theorem mean_ev : Ev (fun k => feature_mean.f k v) (meanOf v) := by
  have h0 : (v.getD 0 []).length = c := by
    rw [List.getD_eq_getElem?_getD, List.getElem?_eq_getElem (by omega)]
    exact hc _ (List.getElem_mem _)
  have e1 := up (fun j k => feature_mean.l1 k v (mapTo (fun (i : Nat) => rnd (sumL (fun x => rd x (i : Int)) v) (v.length : Int)) ((List.range c).map fun (i : Nat) => sumL (fun x => rd x (i : Int)) v) j) (c : Int) (j : Int)) (fun _ => meanOf v) c (by
      refine Ev.step (f := fun _ => some (meanOf v)) (fun k => ?_) (Ev.now _)
      simp only [feature_mean.l1]
      rw [if_neg (by omega)]
      have := mapTo_all (fun (i : Nat) => rnd (sumL (fun x => rd x (i : Int)) v) (v.length : Int)) ((List.range c).map fun (i : Nat) => sumL (fun x => rd x (i : Int)) v)
      rw [List.length_map, List.length_range] at this
      rw [this]
      unfold meanOf
      rw [h0]) (by
      rintro j hj ⟨K, ih⟩
      have hS : ((List.range c).map fun (i : Nat) => sumL (fun x => rd x (i : Int)) v).length = c := by simp
      have b := col_bound v c hv1 hv hc hc64 hb j v.length
      rw [List.take_length] at b
      have hr : rd ((List.range c).map fun (i : Nat) => sumL (fun x => rd x (i : Int)) v) (j : Int) = sumL (fun x => rd x (j : Int)) v := by
        rw [rd_lt _ _ (by omega), List.getElem_map, List.getElem_range]
      obtain ⟨K2, e2⟩ := rounded_ev (sumL (fun x => rd x (j : Int)) v) (v.length : Int) (by omega) (by omega) (by omega) (by omega) (by omega) (by omega)
      refine ⟨K + K2 + 1, fun k hk => ?_⟩
      obtain ⟨m, rfl⟩ : ∃ m, k = m + 1 := ⟨k - 1, by omega⟩
      have ih := ih m (by omega)
      have e2 := e2 m (by omega)
      dsimp only at ih e2 ⊢
      simp only [feature_mean.l1]
      rw [if_pos (by omega), if_pos (by omega), if_pos (by rw [mapTo_length _ _ _ (by omega)]; omega), mapTo_rd _ _ _ (by omega), hr, e2, Option.bind_some, Int.toNat_natCast, w64 (n := (j : Int) + 1) (by omega) (by omega)]
      rw [← mapTo_set _ _ _ (by omega)] at ih
      exact ih) 0 (by omega)
  have e0 := up (fun j k => feature_mean.l0 k v ((List.range c).map fun (i : Nat) => sumL (fun x => rd x (i : Int)) (v.take j)) v (v.length : Int) (j : Int)) (fun _ => meanOf v) v.length (by
      refine Ev.step (fun k => ?_) e1
      simp only [feature_mean.l0]
      rw [if_neg (by omega), List.take_length, List.length_map, List.length_range]
      rfl) (by
      rintro j hj ⟨K, ih⟩
      refine ⟨K + 1, fun k hk => ?_⟩
      obtain ⟨m, rfl⟩ : ∃ m, k = m + 1 := ⟨k - 1, by omega⟩
      have ih := ih m (by omega)
      dsimp only at ih ⊢
      have hl := hc v[j] (List.getElem_mem hj)
      simp only [feature_mean.l0]
      rw [if_pos (by omega), if_pos (by omega), if_pos (by omega), rd2_lt v j hj]
      unfold combined_165.f
      rw [if_pos (by simp [hl]; omega), Option.bind_some, zip_step v c hv1 hv hc hc64 hb j hj, w64 (n := (j : Int) + 1) (by omega) (by omega)]
      exact ih) 0 (by omega)
  refine Ev.congr (fun k => ?_) e0
  unfold feature_mean.f
  rw [rd2_zero, h0, if_pos (by omega), if_pos (by omega), if_pos (by omega), Int.toNat_natCast]
  have : (List.range c).map (fun (i : Nat) => sumL (fun x => rd x (i : Int)) (v.take 0)) = List.replicate c 0 := by
    apply List.ext_getElem
    · simp
    · intro i h1 h2
      simp [sumL]
  rw [this]
  rfl
theorem ref_mean_ev : Ev (fun k => earshotref03_mean.f k v) (meanOf v) := by
  have h0 : (v.getD 0 []).length = c := by
    rw [List.getD_eq_getElem?_getD, List.getElem?_eq_getElem (by omega)]
    exact hc _ (List.getElem_mem _)
  have e0 := up (fun j k => earshotref03_mean.l0 k v (mapTo (fun (i : Nat) => rnd (sumL (fun x => rd x (i : Int)) v) (v.length : Int)) (List.replicate c 0) j) (j : Int)) (fun _ => meanOf v) c (by
      refine Ev.step (f := fun _ => some (meanOf v)) (fun k => ?_) (Ev.now _)
      simp only [earshotref03_mean.l0]
      rw [if_neg (by rw [mapTo_length _ _ _ (by simp)]; simp)]
      have := mapTo_all (fun (i : Nat) => rnd (sumL (fun x => rd x (i : Int)) v) (v.length : Int)) (List.replicate c 0)
      rw [List.length_replicate] at this
      rw [this]
      unfold meanOf
      rw [h0]) (by
      intro j hj ih0
      have hR : (mapTo (fun (i : Nat) => rnd (sumL (fun x => rd x (i : Int)) v) (v.length : Int)) (List.replicate c 0) j).length = c := by rw [mapTo_length _ _ _ (by simp; omega)]; simp
      have e1 := up (fun t k => earshotref03_mean.l1 k v ((mapTo (fun (i : Nat) => rnd (sumL (fun x => rd x (i : Int)) v) (v.length : Int)) (List.replicate c 0) j).set j (sumL (fun x => rd x (j : Int)) (v.take t))) (j : Int) (t : Int)) (fun _ => meanOf v) v.length (by
        have b := col_bound v c hv1 hv hc hc64 hb j v.length
        rw [List.take_length] at b
        obtain ⟨K2, e2⟩ := round_ev (sumL (fun x => rd x (j : Int)) v) (v.length : Int) (by omega) (by omega) (by omega) (by omega) (by omega) (by omega)
        obtain ⟨K, ih⟩ := ih0
        refine ⟨K + K2 + 1, fun k hk => ?_⟩
        obtain ⟨m, rfl⟩ : ∃ m, k = m + 1 := ⟨k - 1, by omega⟩
        have ih := ih m (by omega)
        have e2 := e2 m (by omega)
        dsimp only at ih e2 ⊢
        simp only [earshotref03_mean.l1]
        rw [if_neg (by omega), if_pos (by omega), if_pos (by simp [hR]; omega), List.take_length, rd_set _ _ (by omega), e2, Option.bind_some, Int.toNat_natCast, w64 (n := (j : Int) + 1) (by omega) (by omega), List.set_set]
        rw [← mapTo_set _ _ _ (by simp; omega)] at ih
        exact ih) (by
        rintro t ht ⟨K, ih⟩
        refine ⟨K + 1, fun k hk => ?_⟩
        obtain ⟨m, rfl⟩ : ∃ m, k = m + 1 := ⟨k - 1, by omega⟩
        have ih := ih m (by omega)
        dsimp only at ih ⊢
        have hl := hc v[t] (List.getElem_mem ht)
        have b1 := col_bound v c hv1 hv hc hc64 hb j t
        have b2 := rd_bound v[t] 1048576 (by omega) (hb v[t] (List.getElem_mem ht)) (j : Int)
        simp only [earshotref03_mean.l1]
        rw [rd2_lt v t ht, if_pos (by omega), if_pos (by omega), if_pos (by simp [hR]; omega), if_pos (by omega), if_pos (by omega), rd_set _ _ (by omega), w64 (n := (t : Int) + 1) (by omega) (by omega), Int.toNat_natCast, List.set_set, w64 (by omega) (by omega)]
        rw [sumL_take _ _ _ ht] at ih
        exact ih) 0 (by omega)
      refine Ev.step (fun k => ?_) e1
      simp only [earshotref03_mean.l0]
      rw [if_pos (by omega)]
      simp only [List.take_zero, sumL]
      rw [mapTo_set0 _ _ _ hj]
      rfl) 0 (by omega)
  refine Ev.congr (fun k => ?_) e0
  unfold earshotref03_mean.f
  rw [rd2_zero, h0, if_pos (by omega), if_pos (by omega), if_pos (by omega), Int.toNat_natCast]
  rfl
end
end Go.Proofs.YtdlbmbijobcljaaDoor.Pure

namespace Go.Proofs.YtdlbmbijobcljaaDoor.X
open Go.RowKit Go.Proofs.YtdlbmbijobcljaaDoorW.PrintWords Go.Proofs.YtdlbmbijobcljaaDoorW.PrintLast Go.Proofs.YtdlbmbijobcljaaDoorW.PrintMore
attribute [local go_sem] max2_int min2_int max_two min_two max_three min_three max_four min_four   -- for this text's walks alone
set_option linter.unusedVariables false
set_option linter.unusedSimpArgs false
/-! ### earshotref03_Differences: function 59 -/
mutual
def earshotref03_Differences.l0 : Nat → List (List Int) → List (List Int) → Int → Option ((List (List Int)))
 | 0, _, _, _ => none
 | k + 1, x0, x3, x4 => if x4 < (x0.length : Int) then (if 0 ≤ x4 then (if ([] : List Int).length + (rd_L2 x0 x4).length < 17592186044416 then (if 0 ≤ (mn (wrap64 (x4 + 1)) (wrap64 ((x0.length : Int) - 1))) then (if (mn (wrap64 (x4 + 1)) (wrap64 ((x0.length : Int) - 1))) < (x0.length : Int) then (if 0 ≤ (mx (wrap64 (x4 - 1)) 0) then (if (mx (wrap64 (x4 - 1)) 0) < (x0.length : Int) then (earshotref03_Differences.l1 k x0 x3 x4 (([] : List Int) ++ (rd_L2 x0 x4)) (rd_L2 x0 (mn (wrap64 (x4 + 1)) (wrap64 ((x0.length : Int) - 1)))) (rd_L2 x0 (mx (wrap64 (x4 - 1)) 0)) 0) else (none)) else (none)) else (none)) else (none)) else (none)) else (none)) else (some x3)
def earshotref03_Differences.l1 : Nat → List (List Int) → List (List Int) → Int → List Int → List Int → List Int → Int → Option ((List (List Int)))
 | 0, _, _, _, _, _, _, _ => none
 | k + 1, x0, x3, x4, x5, x6, x7, x8 => if 0 ≤ x4 then (if x4 < (x0.length : Int) then (if x8 < ((rd_L2 x0 x4).length : Int) then (if 0 ≤ x8 then (if x8 < (x6.length : Int) then (if x8 < (x7.length : Int) then (if x5.length < 17592186044416 then (earshotref03_Differences.l1 k x0 x3 x4 (x5 ++ [wrap64 ((rd x6 x8) - (rd x7 x8))]) x6 x7 (wrap64 (x8 + 1))) else (none)) else (none)) else (none)) else (none)) else (if x3.length < 5864062014805 then (earshotref03_Differences.l0 k x0 (x3 ++ [x5]) (wrap64 (x4 + 1))) else (none))) else (none)) else (none)
end
def earshotref03_Differences.f (k : Nat) (l0 : List (List Int)) : Option ((List (List Int))) := earshotref03_Differences.l0 k l0 ([] : List (List Int)) 0
theorem earshotref03_Differences.mono_l : ∀ k, (∀ y0 y1 y2, LeO (earshotref03_Differences.l0 k y0 y1 y2) (earshotref03_Differences.l0 (k + 1) y0 y1 y2)) ∧ (∀ y0 y1 y2 y3 y4 y5 y6, LeO (earshotref03_Differences.l1 k y0 y1 y2 y3 y4 y5 y6) (earshotref03_Differences.l1 (k + 1) y0 y1 y2 y3 y4 y5 y6))
 | 0 => ⟨fun _ _ _ r h => by simp [earshotref03_Differences.l0] at h, fun _ _ _ _ _ _ _ r h => by simp [earshotref03_Differences.l1] at h⟩
 | k + 1 => by
  obtain ⟨ih0, ih1⟩ := earshotref03_Differences.mono_l k
  refine ⟨?_, ?_⟩
  ·intro y0 y1 y2
   unfold earshotref03_Differences.l0
   repeat' first
   | (with_reducible exact ih0 _ _ _)
   | (with_reducible exact ih1 _ _ _ _ _ _ _)
   | (with_reducible exact LeO.refl _)
   | (with_reducible exact LeO.none _)
   | (with_reducible refine LeO.ite ?_ ?_)
   | (with_reducible refine LeO.bind ?_ (fun _ => ?_))
   | exact ih0 _ _ _
   | exact ih1 _ _ _ _ _ _ _
   | exact LeO.none _
   | refine LeO.ite ?_ ?_
   | refine LeO.bind ?_ (fun _ => ?_)
  ·intro y0 y1 y2 y3 y4 y5 y6
   unfold earshotref03_Differences.l1
   repeat' first
   | (with_reducible exact ih0 _ _ _)
   | (with_reducible exact ih1 _ _ _ _ _ _ _)
   | (with_reducible exact LeO.refl _)
   | (with_reducible exact LeO.none _)
   | (with_reducible refine LeO.ite ?_ ?_)
   | (with_reducible refine LeO.bind ?_ (fun _ => ?_))
   | exact ih0 _ _ _
   | exact ih1 _ _ _ _ _ _ _
   | exact LeO.none _
   | refine LeO.ite ?_ ?_
   | refine LeO.bind ?_ (fun _ => ?_)
theorem earshotref03_Differences.mono : ∀ a0 k, LeO (earshotref03_Differences.f k a0) (earshotref03_Differences.f (k + 1) a0) := by
 intro a0 k
 obtain ⟨ih0, ih1⟩ := earshotref03_Differences.mono_l k
 unfold earshotref03_Differences.f
 repeat' first
   | (with_reducible exact ih0 _ _ _)
   | (with_reducible exact ih1 _ _ _ _ _ _ _)
   | (with_reducible exact LeO.refl _)
   | (with_reducible exact LeO.none _)
   | (with_reducible refine LeO.ite ?_ ?_)
   | (with_reducible refine LeO.bind ?_ (fun _ => ?_))
   | exact ih0 _ _ _
   | exact ih1 _ _ _ _ _ _ _
   | exact LeO.none _
   | refine LeO.ite ?_ ?_
   | refine LeO.bind ?_ (fun _ => ?_)
def earshotref03_Differences.T6 : Bool × List (List Nat × List Nat) := (true, [([], []), ([], []), ([1], [1]), ([], []), ([3], [3]), ([4], [4]), ([2, 5], [2, 5]), ([0, 6], [0, 6]), ([7], [7]), ([], []), ([], []), ([10], [10]), ([11], [11]), ([9, 12], [9, 12]), ([13], [13]), ([8, 0, 1, 2, 3, 4, 5, 6, 7, 8], [8]), ([14, 15, 0, 1, 2, 3, 4, 5, 6, 7, 8, 9, 10, 11, 12, 13, 14, 15], [14])])
def earshotref03_Differences.B6 : List Nat := [0, 0, 2, 0, 8, 24, 62, 127, 255, 0, 0, 1024, 3072, 7680, 15872, 511, 65535]
theorem earshotref03_Differences.tab6 : rtab .any (opsOf Tryd.f59 6) = earshotref03_Differences.T6 := by kernel_rfl
theorem earshotref03_Differences.bits6 : waitsOk earshotref03_Differences.T6.2 earshotref03_Differences.B6 = true := by kernel_rfl
def earshotref03_Differences.T10 : Bool × List (List Nat × List Nat) := (true, [([], []), ([], []), ([], []), ([1, 2], [1, 2]), ([3], [3]), ([], []), ([], []), ([5, 6], [5, 6]), ([7], [7]), ([4, 8], [4, 8]), ([9], [9]), ([0, 10], [0, 10]), ([11, 11, 0, 1, 2, 3, 4, 5, 6, 7, 8, 9, 10, 11], [0, 11])])
def earshotref03_Differences.B10 : List Nat := [0, 0, 0, 6, 14, 0, 0, 96, 224, 510, 1022, 2047, 4095]
theorem earshotref03_Differences.tab10 : rtab .any (opsOf Tryd.f59 10) = earshotref03_Differences.T10 := by kernel_rfl
theorem earshotref03_Differences.bits10 : waitsOk earshotref03_Differences.T10.2 earshotref03_Differences.B10 = true := by kernel_rfl
set_option maxHeartbeats 8000000 in
set_option maxRecDepth 100000 in
theorem earshotref03_Differences.calls (k : Nat) (A0 : Option Addr) (c0 : Nat) (l0 : List (List Int)) (r : List (List Int)) (w : World) (hr0 : Kd.C (Kd.slice 3 (Kd.int .i64)) w A0 l0.length l0) (hc0 : l0.length ≤ c0) (h : earshotref03_Differences.f k l0 = some r) :
  Calls Tryd.prog 59 #[.slice A0 l0.length c0] w fun e w' => ∃ v0_ : Value, e = .returned (v0_) ∧ Kd.S (Kd.slice 3 (Kd.int .i64)) 22 w' w.heap.size (fun _ => True) v0_ r ∧ Below w.heap.size w w' := by
 have HR0 := Aside0.mk hr0
 have HC0 := Aside0.mk hc0
 clear hr0 hc0
 have HB := Aside0.mk (Below.refl w.heap.size w)
 have H : (earshotref03_Differences.l0 k l0 ([] : List (List Int)) 0) = some r := h
 clear h
 have H' := Aside0.mk H
 clear H
 go_enter Tryd.func59, Tryd.ntmps59
 go_wp2
 go_loopg [3, 4] k (fun kq v3 v4 w' => ∃ (x3_1 : List (List Int)) (x4_1 : Int), v4 = .int .i64 x4_1 ∧ Aside0 (earshotref03_Differences.l0 kq l0 x3_1 x4_1 = some r) ∧ Aside0 (kq ≤ k) ∧ Aside0 (Kd.S (Kd.slice 3 (Kd.int .i64)) 22 w' w.heap.size (fun _ => True) v3 x3_1) ∧ Aside0 (Below w.heap.size w w'))
 case atStart => exact ⟨(([] : List (List Int))), (0), (by first | rfl | (simp; done) | (simp only [i64_w]; done) | (simp [*]; done)), H', ⟨Nat.le_refl _⟩, ⟨by first | exact Kd.S_nil _ _ _ _ _ | exact Kd.N_nil _ _ _ _ _ | exact Kd.V_nil _ _ _ _ _ | exact Kd.Q_nil _ _ _ _ _ | exact Kd.R_nil _ _ _ _ _⟩, ⟨tB⟩⟩
 case round =>
  clear H'
  obtain ⟨x3_1, x4_1, rfl, HA, HK1, HO_3, HB⟩ := hrel
  cases gk with
  | zero => exact absurd HA.out (by simp [earshotref03_Differences.l0])
  | succ k1 =>
   have H := HA.out
   clear HA
   simp only [earshotref03_Differences.l0] at H
   by_cases c2 : x4_1 < (l0.length : Int)
   ·rw [if_pos c2] at H
    have c2b0 := decide_eq_true c2
    clear c2
    by_cases c3 : 0 ≤ x4_1
    ·rw [if_pos c3] at H
     have c3b0 := decide_eq_true c3
     clear c3
     by_cases c4 : ([] : List Int).length + (rd_L2 l0 x4_1).length < 17592186044416
     ·rw [if_pos c4] at H
      have LMc4 := Aside0.mk c4
      clear c4
      obtain ⟨y102, hy102⟩ : ∃ y_ : List Int, y_ = (([] : List Int) ++ (rd_L2 l0 x4_1)) := ⟨_, rfl⟩
      replace H : (if 0 ≤ (mn (wrap64 (x4_1 + 1)) (wrap64 ((l0.length : Int) - 1))) then (if (mn (wrap64 (x4_1 + 1)) (wrap64 ((l0.length : Int) - 1))) < (l0.length : Int) then (if 0 ≤ (mx (wrap64 (x4_1 - 1)) 0) then (if (mx (wrap64 (x4_1 - 1)) 0) < (l0.length : Int) then (earshotref03_Differences.l1 k1 l0 x3_1 x4_1 y102 (rd_L2 l0 (mn (wrap64 (x4_1 + 1)) (wrap64 ((l0.length : Int) - 1)))) (rd_L2 l0 (mx (wrap64 (x4_1 - 1)) 0)) 0) else (none)) else (none)) else (none)) else (none)) = some r := by first | (rw [hy102]; with_reducible exact H) | (have H2_ := (Option.bind_some _ _).symm.trans H; rw [hy102]; with_reducible exact H2_) | (have H2_ := (Option.bind_some _ _).symm.trans H; with_reducible exact H2_) | with_reducible exact H | (rw [hy102]; exact H) | exact H
      have Ny102 := Aside0.mk hy102
      clear hy102
      obtain ⟨ji5, hji5⟩ : ∃ j_ : Int, (mn (wrap64 (x4_1 + 1)) (wrap64 ((l0.length : Int) - 1))) = j_ := ⟨_, rfl⟩
      first | rw [hji5] at H | simp only [hji5] at H
      have hji5_ : (if (wrap64 ((l0.length : Int) - 1)) < (wrap64 (x4_1 + 1)) then (wrap64 ((l0.length : Int) - 1)) else (wrap64 (x4_1 + 1))) = ji5 := hji5
      by_cases c6 : 0 ≤ (ji5)
      ·rw [if_pos c6] at H
       have c6b0 := decide_eq_true c6
       clear c6
       by_cases c7 : (ji5) < (l0.length : Int)
       ·rw [if_pos c7] at H
        have c7b0 := decide_eq_true c7
        clear c7
        obtain ⟨ji8, hji8⟩ : ∃ j_ : Int, (mx (wrap64 (x4_1 - 1)) 0) = j_ := ⟨_, rfl⟩
        first | rw [hji8] at H | simp only [hji8] at H
        have hji8_ : (if (wrap64 (x4_1 - 1)) < 0 then 0 else (wrap64 (x4_1 - 1))) = ji8 := hji8
        by_cases c9 : 0 ≤ (ji8)
        ·rw [if_pos c9] at H
         have c9b0 := decide_eq_true c9
         clear c9
         by_cases c10 : (ji8) < (l0.length : Int)
         ·rw [if_pos c10] at H
          have c10b0 := decide_eq_true c10
          clear c10
          have H' := Aside0.mk H
          clear H
          have p101 : 0 ≤ (x4_1 : Int) := of_decide_eq_true tA
          have q101 : x4_1 < (l0.length : Int) := of_decide_eq_true tA
          obtain ⟨ad101, A101_0, c101_0, e101, hx101_0, hl101_0, hi101_0⟩ := at_L2 HR0.out x4_1 p101 q101
          cases e101
          replace hx101_0 := (HB.out.cell (World.block_lt_of_cell? w _ hx101_0)).trans hx101_0
          have HR101_0 := Aside0.mk hi101_0
          have HC101_0 := Aside0.mk hl101_0
          clear hi101_0 hl101_0
          replace p101 := eq_true p101
          replace q101 := eq_true q101
          try go_wp2_with (first | ((with_reducible refine gate_builtin (b := .append) (xs := #[.const (.slice none 0 0), .tmp 18]) rfl ?_); at_builtin; refine Kd.R_append_rows (Kd.int .i64) (w0 := w) w.heap.size rfl (.const (.slice none 0 0)) (.tmp 18) 22 3 (.int .i64 0) 8 rfl Tryd.underlying22 info3 rfl (by decide) (by omega) (.slice none 0 0) ([] : List Int) (rd_L2 l0 x4_1) _ _ _ (fun _ => True) (fun _ => False) rfl rfl ?aO ?aR (fun _ _ h => h) (fun _ h => h.elim) ?aF ?aB ?aS ?aL ?_; (case aR => repeat (first | exact (Kd.C_below HR101_0.out HB.out) | (with_reducible refine Kd.C_alloc ?_ _) | (with_reducible refine Kd.C_drewN ?_ _) | (with_reducible refine Kd.C_drew ?_))); (case aB => exact tB); (case aF => exact (fun _ _ => trivial)); (case aO => exact ((Kd.R_nil _ _ _ _ (fun _ => True)))); (case aS => exact (below_size tB)); (case aL => have := LMc4.out; omega); intro v103 w11 ho hb hg hat; rw [← Ny102.out] at ho; have n0_ := Aside0.mk (Kd.S_after (Kd.S_apart_nil (tS HO_3.out)) hg hat); have n1_ := Aside0.mk (hb); have n2_ := Aside0.mk (ho); clear HO_3; clear HB; have HO_3 := n0_; have HB := n1_; have HO104 := n2_; clear n0_ n1_ n2_; clear ho hb hg hat))
          have n0_ := Aside0.mk (Kd.S_drew HO_3.out)
          have n1_ := Aside0.mk (Kd.R_drew HO104.out)
          have n2_ := Aside0.mk (below_drew1 HB.out)
          clear HO_3
          clear HO104
          clear HB
          have HO_3 := n0_
          have HO104 := n1_
          have HB := n2_
          clear n0_ n1_ n2_
          have p105 : 0 ≤ ((ji5) : Int) := of_decide_eq_true tA
          have q105 : (ji5) < (l0.length : Int) := of_decide_eq_true tA
          obtain ⟨ad105, A105_0, c105_0, e105, hx105_0, hl105_0, hi105_0⟩ := at_L2 HR0.out (ji5) p105 q105
          have hw105_0 := hx105_0
          obtain rfl : ad101 = ad105 := (by injection e105)
          replace hx105_0 := (HB.out.cell (World.block_lt_of_cell? w _ hx105_0)).trans hx105_0
          have HR105_0 := Aside0.mk hi105_0
          have HC105_0 := Aside0.mk hl105_0
          clear hi105_0 hl105_0
          replace p105 := eq_true p105
          replace q105 := eq_true q105
          have p106 : 0 ≤ ((ji8) : Int) := of_decide_eq_true tA
          have q106 : (ji8) < (l0.length : Int) := of_decide_eq_true tA
          obtain ⟨ad106, A106_0, c106_0, e106, hx106_0, hl106_0, hi106_0⟩ := at_L2 HR0.out (ji8) p106 q106
          have hw106_0 := hx106_0
          obtain rfl : ad101 = ad106 := (by injection e106)
          replace hx106_0 := (HB.out.cell (World.block_lt_of_cell? w _ hx106_0)).trans hx106_0
          have HR106_0 := Aside0.mk hi106_0
          have HC106_0 := Aside0.mk hl106_0
          clear hi106_0 hl106_0
          replace p106 := eq_true p106
          replace q106 := eq_true q106
          refine start_ (n := 17) (S := fun w' => w'.cell? (ad101.add ((ji5)).toNat) = some (.slice A105_0 (rd_L2 l0 (ji5)).length c105_0) ∧ w'.cell? (ad101.add ((ji8)).toNat) = some (.slice A106_0 (rd_L2 l0 (ji8)).length c106_0)) (ds := []) #[false, false, false, false, false, false, false, false, false, false, false, false, false, false, false, false, false] (by kernel_rfl) rfl rfl ⟨((HB.out.cell (World.block_lt_of_cell? w _ hw105_0)).trans hw105_0), ((HB.out.cell (World.block_lt_of_cell? w _ hw106_0)).trans hw106_0)⟩ (fun hHeld => ?_); refine with_tabW earshotref03_Differences.tab6 earshotref03_Differences.bits6 (fun HT_ HW_ => ?_)
          generalize w11.drew = w12 at HO_3 HO104 HB HR105_0 HR106_0 hx105_0 hx106_0 hHeld ⊢
          refine pI 0 (some 20) (bm 1 17) HT_.out ?_
          refine pI 1 (some 21) (bm 2 17) HT_.out ?_
          refine pI 2 (some 22) (bm 3 17) HT_.out ?_
          refine pI 3 (some 23) (bm 4 17) HT_.out ?_
          refine pI 4 (some 24) (bm 5 17) HT_.out ?_
          refine pI 5 (some 25) (bm 6 17) HT_.out ?_
          refine pI 6 (some 26) (bm 7 17) HT_.out ?_
          refine pI 7 (some 27) (bm 8 17) HT_.out ?_
          refine pure_ (i := 9) (N := some 29) (v := ?_) (a' := ?_) #[true, true, true, true, true, true, true, true, false, true, false, false, false, false, false, false, false] rfl rfl (any_of HT_.out (by kernel_rfl)) (fun _ _ _ h => h) (Or.inl ⟨by rfl, ?_⟩) ?_ ?_
          rotate_left
          ·intro w'
           go_simp
           with_reducible rfl
          rotate_left
          ·simp only [Act.put, List.setIfInBounds_toArray, List.set_cons_zero, List.set_cons_succ, i64_w, i32_w]
           rfl
          refine pure_ (i := 10) (N := some 30) (v := ?_) (a' := ?_) #[true, true, true, true, true, true, true, true, false, true, true, false, false, false, false, false, false] rfl rfl (any_of HT_.out (by kernel_rfl)) (fun _ _ _ h => h) (Or.inl ⟨by rfl, ?_⟩) ?_ ?_
          rotate_left
          ·intro w'
           go_simp
           with_reducible rfl
          rotate_left
          ·simp only [Act.put, List.setIfInBounds_toArray, List.set_cons_zero, List.set_cons_succ, i64_w, i32_w]
           rfl
          refine pure_ (i := 11) (N := some 31) (v := ?_) (a' := ?_) #[true, true, true, true, true, true, true, true, false, true, true, true, false, false, false, false, false] rfl rfl (any_of HT_.out (by kernel_rfl)) (fun _ _ _ h => h) (Or.inl ⟨by rfl, ?_⟩) ?_ ?_
          rotate_left
          ·intro w'
           go_simp
           with_reducible rfl
          rotate_left
          ·simp only [Act.put, List.setIfInBounds_toArray, List.set_cons_zero, List.set_cons_succ, i64_w, i32_w]
           rfl
          refine pure_ (i := 12) (N := some 32) (v := ?_) (a' := ?_) #[true, true, true, true, true, true, true, true, false, true, true, true, true, false, false, false, false] rfl rfl (any_of HT_.out (by kernel_rfl)) (fun _ _ _ h => h) (Or.inl ⟨by rfl, ?_⟩) ?_ ?_
          rotate_left
          ·intro w'
           go_simp
           with_reducible rfl
          rotate_left
          ·simp only [Act.put, List.setIfInBounds_toArray, List.set_cons_zero, List.set_cons_succ, i64_w, i32_w]
           rfl
          refine pure_ (i := 13) (N := some 33) (v := ?_) (a' := ?_) #[true, true, true, true, true, true, true, true, false, true, true, true, true, true, false, false, false] rfl rfl (any_of HT_.out (by kernel_rfl)) (fun _ _ _ h => h) (Or.inl ⟨by rfl, ?_⟩) ?_ ?_
          rotate_left
          ·intro w'
           go_simp
           with_reducible rfl
          rotate_left
          ·simp only [Act.put, List.setIfInBounds_toArray, List.set_cons_zero, List.set_cons_succ, i64_w, i32_w]
           rfl
          refine tk2 8 (some 28) (bm 14 17) HT_.out HW_.out hHeld ?_
          refine pure_ (i := 15) (N := some 6) (v := ?_) (a' := ?_) #[true, true, true, true, true, true, true, true, true, true, true, true, true, true, false, true, false] rfl rfl (any_of HT_.out (by kernel_rfl)) (fun _ _ _ h => h) (Or.inl ⟨by rfl, ?_⟩) ?_ ?_
          rotate_left
          ·intro w'
           go_simp
           with_reducible rfl
          rotate_left
          ·simp only [Act.put, List.setIfInBounds_toArray, List.set_cons_zero, List.set_cons_succ, i64_w, i32_w]
           rfl
          refine tk2 14 (some 34) (bm 16 17) HT_.out HW_.out hHeld ?_
          refine pI 16 (some 7) (bm 17 17) HT_.out ?_
          refine done_ (done_of HT_.out (by kernel_rfl)) ?_
          try go_wp2
          go_loopg [5, 8] k1 (fun kq v5 v8 w' => ∃ (x5_2 : List Int) (x8_2 : Int), v8 = .int .i64 x8_2 ∧ Aside0 (earshotref03_Differences.l1 kq l0 x3_1 x4_1 x5_2 (rd_L2 l0 (ji5)) (rd_L2 l0 (ji8)) x8_2 = some r) ∧ Aside0 (kq ≤ k1) ∧ Aside0 (Kd.S (Kd.slice 3 (Kd.int .i64)) 22 w' w.heap.size (fun k_ => some k_ ≠ (v5 : Value).ownBlock) u3 x3_1) ∧ Aside0 (Kd.R (Kd.int .i64) 3 w' w.heap.size (fun _ => True) v5 x5_2) ∧ Aside0 (Below w.heap.size w w'))
          case atStart => exact ⟨(y102), (0), (by first | rfl | (simp; done) | (simp only [i64_w]; done) | (simp [*]; done)), H', ⟨Nat.le_refl _⟩, ⟨by (with_reducible repeat (first | apply Kd.S_alloc | apply Kd.S_drewN | apply Kd.S_drew)); exact Kd.S_mono HO_3.out (fun _ hk => hk.2)⟩, ⟨tR HO104.out⟩, ⟨tB⟩⟩
          case round =>
           clear H'
           try clear c1
           try clear p1
           try clear q1
           try clear hx1
           try clear c2
           try clear c2b0
           try clear p2
           try clear c3
           try clear c3b0
           try clear c4
           try clear c5
           try clear c6
           try clear c6b0
           try clear p6
           try clear c7
           try clear c7b0
           try clear c9
           try clear c9b0
           try clear c10
           try clear c10b0
           try clear p10
           try clear q10
           try clear hx10
           try clear hx101_0
           try clear hx105_0
           try clear hx106_0
           try clear p101
           try clear p105
           try clear p106
           try clear q101
           try clear q105
           try clear q106
           obtain ⟨x5_2, x8_2, rfl, HA, HK2, HO_3, HO_5, HB⟩ := hrel
           cases gk with
           | zero => exact absurd HA.out (by simp [earshotref03_Differences.l1])
           | succ k2 =>
            have H := HA.out
            clear HA
            simp only [earshotref03_Differences.l1] at H
            by_cases c13 : 0 ≤ x4_1
            ·rw [if_pos c13] at H
             have c13b0 := decide_eq_true c13
             clear c13
             by_cases c14 : x4_1 < (l0.length : Int)
             ·rw [if_pos c14] at H
              have c14b0 := decide_eq_true c14
              clear c14
              by_cases c15 : x8_2 < ((rd_L2 l0 x4_1).length : Int)
              ·rw [if_pos c15] at H
               have c15b0 := decide_eq_true c15
               clear c15
               by_cases c16 : 0 ≤ x8_2
               ·rw [if_pos c16] at H
                have c16b0 := decide_eq_true c16
                clear c16
                by_cases c17 : x8_2 < ((rd_L2 l0 (ji5)).length : Int)
                ·rw [if_pos c17] at H
                 have c17b0 := decide_eq_true c17
                 clear c17
                 by_cases c18 : x8_2 < ((rd_L2 l0 (ji8)).length : Int)
                 ·rw [if_pos c18] at H
                  have c18b0 := decide_eq_true c18
                  clear c18
                  by_cases c19 : x5_2.length < 17592186044416
                  ·rw [if_pos c19] at H
                   have LMc19 := Aside0.mk c19
                   clear c19
                   obtain ⟨y110, hy110⟩ : ∃ y_ : List Int, y_ = (x5_2 ++ [wrap64 ((rd (rd_L2 l0 (ji5)) x8_2) - (rd (rd_L2 l0 (ji8)) x8_2))]) := ⟨_, rfl⟩
                   replace H : (earshotref03_Differences.l1 k2 l0 x3_1 x4_1 y110 (rd_L2 l0 (ji5)) (rd_L2 l0 (ji8)) (wrap64 (x8_2 + 1))) = some r := by first | (rw [hy110]; with_reducible exact H) | (have H2_ := (Option.bind_some _ _).symm.trans H; rw [hy110]; with_reducible exact H2_) | (have H2_ := (Option.bind_some _ _).symm.trans H; with_reducible exact H2_) | with_reducible exact H | (rw [hy110]; exact H) | exact H
                   have Ny110 := Aside0.mk hy110
                   clear hy110
                   have H' := Aside0.mk H
                   clear H
                   have p107 : 0 ≤ (x4_1 : Int) := of_decide_eq_true tA
                   have q107 : x4_1 < (l0.length : Int) := of_decide_eq_true tA
                   obtain ⟨ad107, A107_0, c107_0, e107, hx107_0, hl107_0, hi107_0⟩ := at_L2 HR0.out x4_1 p107 q107
                   obtain rfl : ad101 = ad107 := (by injection e107)
                   replace hx107_0 := (HB.out.cell (World.block_lt_of_cell? w _ hx107_0)).trans hx107_0
                   have HR107_0 := Aside0.mk hi107_0
                   have HC107_0 := Aside0.mk hl107_0
                   clear hi107_0 hl107_0
                   replace p107 := eq_true p107
                   replace q107 := eq_true q107
                   try go_wp2
                   have n0_ := Aside0.mk (Kd.S_drew HO_3.out)
                   have n1_ := Aside0.mk (Kd.R_drew HO_5.out)
                   have n2_ := Aside0.mk (below_drew1 HB.out)
                   clear HO_3
                   clear HO_5
                   clear HB
                   have HO_3 := n0_
                   have HO_5 := n1_
                   have HB := n2_
                   clear n0_ n1_ n2_
                   have p108 : 0 ≤ (x8_2 : Int) := of_decide_eq_true tA
                   have q108 : x8_2 < ((rd_L2 l0 (ji5)).length : Int) := of_decide_eq_true tA
                   obtain ⟨ad108, e108, hx108_0⟩ := Kd.at_int HR105_0.out x8_2 p108 q108
                   have hw108_0 := hx108_0
                   cases e108
                   replace hx108_0 := (HB.out.cell (World.block_lt_of_cell? w _ hx108_0)).trans hx108_0
                   replace p108 := eq_true p108
                   replace q108 := eq_true q108
                   have p109 : 0 ≤ (x8_2 : Int) := of_decide_eq_true tA
                   have q109 : x8_2 < ((rd_L2 l0 (ji8)).length : Int) := of_decide_eq_true tA
                   obtain ⟨ad109, e109, hx109_0⟩ := Kd.at_int HR106_0.out x8_2 p109 q109
                   have hw109_0 := hx109_0
                   cases e109
                   replace hx109_0 := (HB.out.cell (World.block_lt_of_cell? w _ hx109_0)).trans hx109_0
                   replace p109 := eq_true p109
                   replace q109 := eq_true q109
                   refine start_ (n := 13) (S := fun w' => w'.cell? (ad108.add (x8_2).toNat) = some (.int .i64 (rd (rd_L2 l0 (ji5)) x8_2)) ∧ w'.cell? (ad109.add (x8_2).toNat) = some (.int .i64 (rd (rd_L2 l0 (ji8)) x8_2))) (ds := []) #[false, false, false, false, false, false, false, false, false, false, false, false, false] (by kernel_rfl) rfl rfl ⟨((HB.out.cell (World.block_lt_of_cell? w _ hw108_0)).trans hw108_0), ((HB.out.cell (World.block_lt_of_cell? w _ hw109_0)).trans hw109_0)⟩ (fun hHeld => ?_); refine with_tabW earshotref03_Differences.tab10 earshotref03_Differences.bits10 (fun HT_ HW_ => ?_)
                   generalize wr.drew = w20 at HO_3 HO_5 HB hx108_0 hx109_0 hHeld ⊢
                   refine pI 0 (some 44) (bm 1 13) HT_.out ?_
                   refine pI 1 (some 45) (bm 2 13) HT_.out ?_
                   refine pI 2 (some 46) (bm 3 13) HT_.out ?_
                   refine pI 3 (some 47) (bm 4 13) HT_.out ?_
                   refine pure_ (i := 5) (N := some 49) (v := ?_) (a' := ?_) #[true, true, true, true, false, true, false, false, false, false, false, false, false] rfl rfl (any_of HT_.out (by kernel_rfl)) (fun _ _ _ h => h) (Or.inl ⟨by rfl, ?_⟩) ?_ ?_
                   rotate_left
                   ·intro w'
                    go_simp
                    with_reducible rfl
                   rotate_left
                   ·simp only [Act.put, List.setIfInBounds_toArray, List.set_cons_zero, List.set_cons_succ, i64_w, i32_w]
                    rfl
                   refine pure_ (i := 6) (N := some 50) (v := ?_) (a' := ?_) #[true, true, true, true, false, true, true, false, false, false, false, false, false] rfl rfl (any_of HT_.out (by kernel_rfl)) (fun _ _ _ h => h) (Or.inl ⟨by rfl, ?_⟩) ?_ ?_
                   rotate_left
                   ·intro w'
                    go_simp
                    with_reducible rfl
                   rotate_left
                   ·simp only [Act.put, List.setIfInBounds_toArray, List.set_cons_zero, List.set_cons_succ, i64_w, i32_w]
                    rfl
                   refine pure_ (i := 7) (N := some 51) (v := ?_) (a' := ?_) #[true, true, true, true, false, true, true, true, false, false, false, false, false] rfl rfl (any_of HT_.out (by kernel_rfl)) (fun _ _ _ h => h) (Or.inl ⟨by rfl, ?_⟩) ?_ ?_
                   rotate_left
                   ·intro w'
                    go_simp
                    with_reducible rfl
                   rotate_left
                   ·simp only [Act.put, List.setIfInBounds_toArray, List.set_cons_zero, List.set_cons_succ, i64_w, i32_w]
                    rfl
                   refine tk2 4 (some 48) (bm 8 13) HT_.out HW_.out hHeld ?_
                   refine tk2 8 (some 52) (bm 9 13) HT_.out HW_.out hHeld ?_
                   refine pI 9 (some 53) (bm 10 13) HT_.out ?_
                   refine one_ (i := 10) (N := some 54) #[true, true, true, true, true, true, true, true, true, true, true, false, false] rfl rfl (one_of HT_.out (by kernel_rfl)) (by decide) (fun K hK => ?_)
                   refine value_ (w1 := ?_) (v := ?_) (by rfl) rfl ?_ ?_
                   rotate_left 2
                   ·go_simp
                    constructor
                    ·rfl
                    ·rfl
                   refine hK.out _ _ ⟨(World.cell?_alloc_lt _ _ _ (World.block_lt_of_cell? _ _ (((HB.out.cell (World.block_lt_of_cell? w _ hw108_0)).trans hw108_0)))).trans (((HB.out.cell (World.block_lt_of_cell? w _ hw108_0)).trans hw108_0)), (World.cell?_alloc_lt _ _ _ (World.block_lt_of_cell? _ _ (((HB.out.cell (World.block_lt_of_cell? w _ hw109_0)).trans hw109_0)))).trans (((HB.out.cell (World.block_lt_of_cell? w _ hw109_0)).trans hw109_0))⟩ (fun hHeld => ?_)
                   clear hK K
                   refine norm_ (a' := ?_) ?_ ?_
                   rotate_left
                   ·show Act.put _ (some 54) _ = _
                    simp only [Act.put, List.setIfInBounds_toArray, List.set_cons_zero, List.set_cons_succ, i64_w, i32_w]
                    rfl
                   refine one_ (i := 11) (N := some 55) #[true, true, true, true, true, true, true, true, true, true, true, true, false] rfl rfl (one_of HT_.out (by kernel_rfl)) (by decide) (fun K hK => ?_)
                   refine Kd.R_append_step (Kd.int .i64) (w0 := w) w.heap.size (by rfl) (.tmp 44) (.tmp 54) 22 3 (.int .i64 0) 8 rfl Tryd.underlying22 info3 rfl (by decide) (by omega) u5 x5_2 (wrap64 ((rd (rd_L2 l0 (ji5)) x8_2) - (rd (rd_L2 l0 (ji8)) x8_2))) [.int .i64 (wrap64 ((rd (rd_L2 l0 (ji5)) x8_2) - (rd (rd_L2 l0 (ji8)) x8_2)))] (fun _ => True) (fun _ => False) rfl rfl ?aP (fun _ hk => hk.elim) ?aF ?aO ?aB ?aS ?aL ?_
                   (case aP => exact rfl)
                   (case aB => exact tB)
                   (case aF => exact (fun _ _ => trivial))
                   (case aO => exact (tR HO_5.out))
                   (case aS => exact (below_size tB))
                   (case aL => have := LMc19.out; omega)
                   intro v111 w21 ho hb hg hat
                   rw [← Ny110.out] at ho
                   have n0_ := Aside0.mk (Kd.S_after (ok := (fun _ => True)) (by (with_reducible repeat (first | apply Kd.S_alloc | apply Kd.S_drewN | apply Kd.S_drew)); exact Kd.S_mono HO_3.out (fun _ hk => ⟨trivial, hk⟩)) hg hat)
                   have n1_ := Aside0.mk (hb)
                   have n2_ := Aside0.mk (ho)
                   clear HO_3
                   clear HB
                   clear HO_5
                   have HO_3 := n0_
                   have HB := n1_
                   have HO112 := n2_
                   clear n0_ n1_ n2_
                   clear ho hb hg hat
                   refine hK.out _ _ ⟨((HB.out.cell (World.block_lt_of_cell? w _ hw108_0)).trans hw108_0), ((HB.out.cell (World.block_lt_of_cell? w _ hw109_0)).trans hw109_0)⟩ (fun hHeld => ?_)
                   clear hK K
                   refine norm_ (a' := ?_) ?_ ?_
                   rotate_left
                   ·show Act.put _ (some 55) _ = _
                    simp only [Act.put, List.setIfInBounds_toArray, List.set_cons_zero, List.set_cons_succ, i64_w, i32_w]
                    rfl
                   refine pI 12 (some 5) (bm 13 13) HT_.out ?_
                   refine done_ (done_of HT_.out (by kernel_rfl)) ?_
                   try go_wp2
                   go_roundg k2
                   case measure => have := HK1.out; have := HK2.out; omega
                   case rel => exact ⟨(y110), (wrap64 (x8_2 + 1)), (by first | rfl | (simp; done) | (simp only [i64_w]; done) | (simp [*]; done)), H', ⟨by have := HK1.out; have := HK2.out; omega⟩, ⟨by (with_reducible repeat (first | apply Kd.S_alloc | apply Kd.S_drewN | apply Kd.S_drew)); exact Kd.S_mono HO_3.out (fun _ hk => hk.2)⟩, ⟨tR HO112.out⟩, ⟨tB⟩⟩
                  ·rw [if_neg c19] at H
                   exact absurd H (by simp)
                 ·rw [if_neg c18] at H
                  exact absurd H (by simp)
                ·rw [if_neg c17] at H
                 exact absurd H (by simp)
               ·rw [if_neg c16] at H
                exact absurd H (by simp)
              ·rw [if_neg c15] at H
               have c15b0 := decide_eq_false c15
               clear c15
               by_cases c22 : x3_1.length < 5864062014805
               ·rw [if_pos c22] at H
                have LMc22 := Aside0.mk c22
                clear c22
                obtain ⟨y113, hy113⟩ : ∃ y_ : List (List Int), y_ = (x3_1 ++ [x5_2]) := ⟨_, rfl⟩
                replace H : (earshotref03_Differences.l0 k2 l0 y113 (wrap64 (x4_1 + 1))) = some r := by first | (rw [hy113]; with_reducible exact H) | (have H2_ := (Option.bind_some _ _).symm.trans H; rw [hy113]; with_reducible exact H2_) | (have H2_ := (Option.bind_some _ _).symm.trans H; with_reducible exact H2_) | with_reducible exact H | (rw [hy113]; exact H) | exact H
                have Ny113 := Aside0.mk hy113
                clear hy113
                have H' := Aside0.mk H
                clear H
                have p107 : 0 ≤ (x4_1 : Int) := of_decide_eq_true tA
                have q107 : x4_1 < (l0.length : Int) := of_decide_eq_true tA
                obtain ⟨ad107, A107_0, c107_0, e107, hx107_0, hl107_0, hi107_0⟩ := at_L2 HR0.out x4_1 p107 q107
                obtain rfl : ad101 = ad107 := (by injection e107)
                replace hx107_0 := (HB.out.cell (World.block_lt_of_cell? w _ hx107_0)).trans hx107_0
                have HR107_0 := Aside0.mk hi107_0
                have HC107_0 := Aside0.mk hl107_0
                clear hi107_0 hl107_0
                replace p107 := eq_true p107
                replace q107 := eq_true q107
                obtain ⟨Ao24, co24, eo24⟩ := Kd.R_slice HO_5.out
                subst eo24
                go_wp2_with (first | ((with_reducible refine gate_builtin (b := .append) (xs := #[.tmp 56, .tmp 58]) rfl ?_); at_builtin; refine Kd.S_append (Kd.slice 3 (Kd.int .i64)) (w0 := w) w.heap.size rfl (.tmp 56) (.tmp 58) 42 22 (.slice none 0 0) 24 rfl Tryd.underlying42 info22 rfl (by decide) (by omega) u3 x3_1 x5_2 [.slice Ao24 x5_2.length co24] (fun _ => True) (fun k_ => some k_ = (.slice Ao24 x5_2.length co24 : Value).ownBlock) rfl rfl ?aP (fun k_ hk_ => ((Kd.R_mono (ok' := fun k_ => ((fun _ => True)) k_ ∧ some k_ ≠ (u3 : Value).ownBlock) (Kd.R_apart' (HO_5.out) (Kd.S_typed HO_3.out) (by decide)) (fun k_ hk => ⟨trivial, hk.2⟩))).1 k_ hk_.symm) ?aF ?aO ?aB ?aS ?aL ?_; (case aP => exact Kd.M_row (Kd.R_mono (Kd.R_tight rfl (Kd.R_mono (ok' := fun k_ => ((fun _ => True)) k_ ∧ some k_ ≠ (u3 : Value).ownBlock) (Kd.R_apart' (HO_5.out) (Kd.S_typed HO_3.out) (by decide)) (fun k_ hk => ⟨trivial, hk.2⟩))) (fun _ h_ => h_))); (case aB => exact tB); (case aF => exact (fun _ _ => trivial)); (case aO => exact (by (with_reducible repeat (first | apply Kd.S_alloc | apply Kd.S_drewN | apply Kd.S_drew)); exact Kd.S_mono HO_3.out (fun k_ hk => ⟨trivial, fun e_ => hk e_⟩))); (case aS => exact (below_size tB)); (case aL => have := LMc22.out; omega); intro v114 w23 ho hb hg hat; rw [← Ny113.out] at ho; have n0_ := Aside0.mk (hb); have n1_ := Aside0.mk (ho); clear HB; clear HO_3; clear HO_5; have HB := n0_; have HO115 := n1_; clear n0_ n1_; clear ho hb hg hat))
                go_roundg k2
                case measure => have := HK1.out; have := HK2.out; omega
                case rel => exact ⟨(y113), (wrap64 (x4_1 + 1)), (by first | rfl | (simp; done) | (simp only [i64_w]; done) | (simp [*]; done)), H', ⟨by have := HK1.out; have := HK2.out; omega⟩, ⟨tS HO115.out⟩, ⟨tB⟩⟩
               ·rw [if_neg c22] at H
                exact absurd H (by simp)
             ·rw [if_neg c14] at H
              exact absurd H (by simp)
            ·rw [if_neg c13] at H
             exact absurd H (by simp)
         ·rw [if_neg c10] at H
          exact absurd H (by simp)
        ·rw [if_neg c9] at H
         exact absurd H (by simp)
       ·rw [if_neg c7] at H
        exact absurd H (by simp)
      ·rw [if_neg c6] at H
       exact absurd H (by simp)
     ·rw [if_neg c4] at H
      exact absurd H (by simp)
    ·rw [if_neg c3] at H
     exact absurd H (by simp)
   ·rw [if_neg c2] at H
    have c2b0 := decide_eq_false c2
    clear c2
    obtain rfl := Option.some.inj H
    go_wp2
    go_ret
    exact ⟨_, by first | rfl | (simp [errW_none, errW_some] <;> rfl) | (simp [*, errW_none, errW_some] <;> rfl), tS HO_3.out, tB⟩

/-! ### earshotref03_Center: function 60 -/
mutual
def earshotref03_Center.l0 : Nat → List (List Int) → List (List Int) → Int → Option ((List (List Int)))
 | 0, _, _, _ => none
 | k + 1, x0, x3, x4 => if x4 < (x0.length : Int) then ((earshotref03_mean.f k x0).bind fun t101 => (earshotref03_Center.l1 k x0 x3 x4 t101 0)) else (some x3)
def earshotref03_Center.l1 : Nat → List (List Int) → List (List Int) → Int → List Int → Int → Option ((List (List Int)))
 | 0, _, _, _, _, _ => none
 | k + 1, x0, x3, x4, x5, x6 => if x6 < (x5.length : Int) then (if 0 ≤ x4 then (if x4 < (x0.length : Int) then (if 0 ≤ x6 then (if x6 < ((rd_L2 x0 x4).length : Int) then (earshotref03_Center.l1 k x0 x3 x4 (x5.set (x6 : Int).toNat (wrap64 ((rd (rd_L2 x0 x4) x6) - (rd x5 x6)))) (wrap64 (x6 + 1))) else (none)) else (none)) else (none)) else (none)) else (if x3.length < 5864062014805 then (earshotref03_Center.l0 k x0 (x3 ++ [x5]) (wrap64 (x4 + 1))) else (none))
end
def earshotref03_Center.f (k : Nat) (l0 : List (List Int)) : Option ((List (List Int))) := earshotref03_Center.l0 k l0 ([] : List (List Int)) 0
theorem earshotref03_Center.mono_l : ∀ k, (∀ y0 y1 y2, LeO (earshotref03_Center.l0 k y0 y1 y2) (earshotref03_Center.l0 (k + 1) y0 y1 y2)) ∧ (∀ y0 y1 y2 y3 y4, LeO (earshotref03_Center.l1 k y0 y1 y2 y3 y4) (earshotref03_Center.l1 (k + 1) y0 y1 y2 y3 y4))
 | 0 => ⟨fun _ _ _ r h => by simp [earshotref03_Center.l0] at h, fun _ _ _ _ _ r h => by simp [earshotref03_Center.l1] at h⟩
 | k + 1 => by
  obtain ⟨ih0, ih1⟩ := earshotref03_Center.mono_l k
  refine ⟨?_, ?_⟩
  ·intro y0 y1 y2
   unfold earshotref03_Center.l0
   repeat' first
   | (with_reducible exact ih0 _ _ _)
   | (with_reducible exact ih1 _ _ _ _ _)
   | (with_reducible exact earshotref03_mean.mono _ _)
   | (with_reducible exact LeO.refl _)
   | (with_reducible exact LeO.none _)
   | (with_reducible refine LeO.ite ?_ ?_)
   | (with_reducible refine LeO.bind ?_ (fun _ => ?_))
   | exact ih0 _ _ _
   | exact ih1 _ _ _ _ _
   | exact earshotref03_mean.mono _ _
   | exact LeO.none _
   | refine LeO.ite ?_ ?_
   | refine LeO.bind ?_ (fun _ => ?_)
  ·intro y0 y1 y2 y3 y4
   unfold earshotref03_Center.l1
   repeat' first
   | (with_reducible exact ih0 _ _ _)
   | (with_reducible exact ih1 _ _ _ _ _)
   | (with_reducible exact earshotref03_mean.mono _ _)
   | (with_reducible exact LeO.refl _)
   | (with_reducible exact LeO.none _)
   | (with_reducible refine LeO.ite ?_ ?_)
   | (with_reducible refine LeO.bind ?_ (fun _ => ?_))
   | exact ih0 _ _ _
   | exact ih1 _ _ _ _ _
   | exact earshotref03_mean.mono _ _
   | exact LeO.none _
   | refine LeO.ite ?_ ?_
   | refine LeO.bind ?_ (fun _ => ?_)
theorem earshotref03_Center.mono : ∀ a0 k, LeO (earshotref03_Center.f k a0) (earshotref03_Center.f (k + 1) a0) := by
 intro a0 k
 obtain ⟨ih0, ih1⟩ := earshotref03_Center.mono_l k
 unfold earshotref03_Center.f
 repeat' first
   | (with_reducible exact ih0 _ _ _)
   | (with_reducible exact ih1 _ _ _ _ _)
   | (with_reducible exact earshotref03_mean.mono _ _)
   | (with_reducible exact LeO.refl _)
   | (with_reducible exact LeO.none _)
   | (with_reducible refine LeO.ite ?_ ?_)
   | (with_reducible refine LeO.bind ?_ (fun _ => ?_))
   | exact ih0 _ _ _
   | exact ih1 _ _ _ _ _
   | exact earshotref03_mean.mono _ _
   | exact LeO.none _
   | refine LeO.ite ?_ ?_
   | refine LeO.bind ?_ (fun _ => ?_)
def earshotref03_Center.T9 : Bool × List (List Nat × List Nat) := (true, [([], []), ([], []), ([], []), ([], []), ([2, 3], [2, 3]), ([4], [4]), ([], []), ([5, 6], [5, 6]), ([7], [7]), ([], []), ([], []), ([9, 10], [9, 10]), ([11], [11]), ([8, 12], [8, 12]), ([0, 1, 0, 1, 2, 3, 4, 5, 6, 7, 8, 9, 10, 11, 12, 13], [0, 1]), ([14, 13, 0, 1, 2, 3, 4, 5, 6, 7, 8, 9, 10, 11, 12, 13], [13, 14])])
def earshotref03_Center.B9 : List Nat := [0, 0, 0, 0, 12, 28, 0, 124, 252, 0, 0, 1536, 3584, 8188, 16383, 32767]
theorem earshotref03_Center.tab9 : rtab .any (opsOf Tryd.f60 9) = earshotref03_Center.T9 := by kernel_rfl
theorem earshotref03_Center.bits9 : waitsOk earshotref03_Center.T9.2 earshotref03_Center.B9 = true := by kernel_rfl
set_option maxHeartbeats 8000000 in
set_option maxRecDepth 100000 in
theorem earshotref03_Center.calls (k : Nat) (A0 : Option Addr) (c0 : Nat) (l0 : List (List Int)) (r : List (List Int)) (w : World) (hr0 : Kd.C (Kd.slice 3 (Kd.int .i64)) w A0 l0.length l0) (hc0 : l0.length ≤ c0) (h : earshotref03_Center.f k l0 = some r) :
  Calls Tryd.prog 60 #[.slice A0 l0.length c0] w fun e w' => ∃ v0_ : Value, e = .returned (v0_) ∧ Kd.S (Kd.slice 3 (Kd.int .i64)) 22 w' w.heap.size (fun _ => True) v0_ r ∧ Below w.heap.size w w' := by
 have HR0 := Aside0.mk hr0
 have HC0 := Aside0.mk hc0
 clear hr0 hc0
 have HB := Aside0.mk (Below.refl w.heap.size w)
 have H : (earshotref03_Center.l0 k l0 ([] : List (List Int)) 0) = some r := h
 clear h
 have H' := Aside0.mk H
 clear H
 go_enter Tryd.func60, Tryd.ntmps60
 go_wp2
 go_loopg [3, 4] k (fun kq v3 v4 w' => ∃ (x3_1 : List (List Int)) (x4_1 : Int), v4 = .int .i64 x4_1 ∧ Aside0 (earshotref03_Center.l0 kq l0 x3_1 x4_1 = some r) ∧ Aside0 (kq ≤ k) ∧ Aside0 (Kd.S (Kd.slice 3 (Kd.int .i64)) 22 w' w.heap.size (fun _ => True) v3 x3_1) ∧ Aside0 (Below w.heap.size w w'))
 case atStart => exact ⟨(([] : List (List Int))), (0), (by first | rfl | (simp; done) | (simp only [i64_w]; done) | (simp [*]; done)), H', ⟨Nat.le_refl _⟩, ⟨by first | exact Kd.S_nil _ _ _ _ _ | exact Kd.N_nil _ _ _ _ _ | exact Kd.V_nil _ _ _ _ _ | exact Kd.Q_nil _ _ _ _ _ | exact Kd.R_nil _ _ _ _ _⟩, ⟨tB⟩⟩
 case round =>
  clear H'
  obtain ⟨x3_1, x4_1, rfl, HA, HK1, HO_3, HB⟩ := hrel
  cases gk with
  | zero => exact absurd HA.out (by simp [earshotref03_Center.l0])
  | succ k1 =>
   have H := HA.out
   clear HA
   simp only [earshotref03_Center.l0] at H
   by_cases c2 : x4_1 < (l0.length : Int)
   ·rw [if_pos c2] at H
    have c2b0 := decide_eq_true c2
    clear c2
    replace H := Option.bind_eq_some_iff.mp H
    obtain ⟨t101, A30, H⟩ := H
    try dsimp only at H
    have A3 := Aside0.mk A30
    clear A30
    have H' := Aside0.mk H
    clear H
    go_wp2_with (first | ((with_reducible refine gate_callee (f := 116) rfl ?_); refine goesL_ (some 14) rfl rfl Tryd.func116 (by kernel_rfl) rfl #[.slice A0 l0.length c0] rfl tL ?_; (with_reducible refine (earshotref03_mean.calls k1 _ _ l0 t101 _ ?side1 ?side2 A3.out).mono ?_); (case side1 => exact tC (Kd.C_below HR0.out HB.out)); (case side2 => exact HC0.out); rintro e w4 ⟨v102, rfl, ho0, hb⟩; refine ⟨_, rfl, ?_⟩; have n0_ := Aside0.mk (Kd.S_elder' (tS HO_3.out) (Kd.R_base ho0) hb); have n1_ := Aside0.mk (Kd.R_lower ho0 (below_size tB)); have n2_ := Aside0.mk (below_step tB hb); clear HO_3; clear HB; have HO_3 := n0_; have HO103 := n1_; have HB := n2_; clear n0_ n1_ n2_; (try clear hb); (try clear hb2); (try clear hk); (try clear hi); (try clear ho0)))
    go_loopg [6] k1 (fun kq v6 w' => ∃ (x5_2 : List Int) (x6_2 : Int), v6 = .int .i64 x6_2 ∧ Aside0 (earshotref03_Center.l1 kq l0 x3_1 x4_1 x5_2 x6_2 = some r) ∧ Aside0 (kq ≤ k1) ∧ Aside0 (Kd.S (Kd.slice 3 (Kd.int .i64)) 22 w' w.heap.size (fun k_ => some k_ ≠ (v102 : Value).ownBlock) u3 x3_1) ∧ Aside0 (Kd.R (Kd.int .i64) 3 w' w.heap.size (fun _ => True) v102 x5_2) ∧ Aside0 (Below w.heap.size w w'))
    case atStart => exact ⟨(t101), (0), (by first | rfl | (simp; done) | (simp only [i64_w]; done) | (simp [*]; done)), H', ⟨Nat.le_refl _⟩, ⟨by (with_reducible repeat (first | apply Kd.S_alloc | apply Kd.S_drewN | apply Kd.S_drew)); exact Kd.S_mono HO_3.out (fun _ hk => hk.2)⟩, ⟨tR HO103.out⟩, ⟨tB⟩⟩
    case round =>
     clear H'
     try clear c1
     try clear c2
     try clear c2b0
     try clear p2
     obtain ⟨x5_2, x6_2, rfl, HA, HK2, HO_3, HO_5, HB⟩ := hrel
     cases gk with
     | zero => exact absurd HA.out (by simp [earshotref03_Center.l1])
     | succ k2 =>
      have H := HA.out
      clear HA
      simp only [earshotref03_Center.l1] at H
      by_cases c5 : x6_2 < (x5_2.length : Int)
      ·rw [if_pos c5] at H
       have c5b0 := decide_eq_true c5
       clear c5
       by_cases c6 : 0 ≤ x4_1
       ·rw [if_pos c6] at H
        have c6b0 := decide_eq_true c6
        clear c6
        by_cases c7 : x4_1 < (l0.length : Int)
        ·rw [if_pos c7] at H
         have c7b0 := decide_eq_true c7
         clear c7
         by_cases c8 : 0 ≤ x6_2
         ·rw [if_pos c8] at H
          have c8b0 := decide_eq_true c8
          clear c8
          by_cases c9 : x6_2 < ((rd_L2 l0 x4_1).length : Int)
          ·rw [if_pos c9] at H
           have c9b0 := decide_eq_true c9
           clear c9
           obtain ⟨y107, hy107⟩ : ∃ y_ : List Int, y_ = (x5_2.set (x6_2 : Int).toNat (wrap64 ((rd (rd_L2 l0 x4_1) x6_2) - (rd x5_2 x6_2)))) := ⟨_, rfl⟩
           replace H : (earshotref03_Center.l1 k2 l0 x3_1 x4_1 y107 (wrap64 (x6_2 + 1))) = some r := by first | (rw [hy107]; with_reducible exact H) | (have H2_ := (Option.bind_some _ _).symm.trans H; rw [hy107]; with_reducible exact H2_) | (have H2_ := (Option.bind_some _ _).symm.trans H; with_reducible exact H2_) | with_reducible exact H | (rw [hy107]; exact H) | exact H
           have Ny107 := Aside0.mk hy107
           clear hy107
           have H' := Aside0.mk H
           clear H
           obtain ⟨Ao11, co11, eo11⟩ := Kd.R_slice HO_5.out
           subst eo11
           try go_wp2
           have n0_ := Aside0.mk (Kd.S_drew HO_3.out)
           have n1_ := Aside0.mk (Kd.R_drew HO_5.out)
           have n2_ := Aside0.mk (below_drew1 HB.out)
           clear HO_3
           clear HO_5
           clear HB
           have HO_3 := n0_
           have HO_5 := n1_
           have HB := n2_
           clear n0_ n1_ n2_
           have p104 : 0 ≤ (x4_1 : Int) := of_decide_eq_true tA
           have q104 : x4_1 < (l0.length : Int) := of_decide_eq_true tA
           obtain ⟨ad104, A104_0, c104_0, e104, hx104_0, hl104_0, hi104_0⟩ := at_L2 HR0.out x4_1 p104 q104
           have hw104_0 := hx104_0
           cases e104
           replace hx104_0 := (HB.out.cell (World.block_lt_of_cell? w _ hx104_0)).trans hx104_0
           have HR104_0 := Aside0.mk hi104_0
           have HC104_0 := Aside0.mk hl104_0
           clear hi104_0 hl104_0
           replace p104 := eq_true p104
           replace q104 := eq_true q104
           have p105 : 0 ≤ (x6_2 : Int) := of_decide_eq_true tA
           have q105 : x6_2 < ((rd_L2 l0 x4_1).length : Int) := of_decide_eq_true tA
           obtain ⟨ad105, e105, hx105_0⟩ := Kd.at_int HR104_0.out x6_2 p105 q105
           have hw105_0 := hx105_0
           cases e105
           replace hx105_0 := (HB.out.cell (World.block_lt_of_cell? w _ hx105_0)).trans hx105_0
           replace p105 := eq_true p105
           replace q105 := eq_true q105
           have p106 : 0 ≤ (x6_2 : Int) := of_decide_eq_true tA
           have q106 : x6_2 < (x5_2.length : Int) := of_decide_eq_true tA
           obtain ⟨ad106, e106, hx106_0⟩ := Kd.at_int (Kd.R_reads' HO_5.out).2.2 x6_2 p106 q106
           cases e106
           replace p106 := eq_true p106
           replace q106 := eq_true q106
           have p10 : 0 ≤ (x6_2 : Int) := of_decide_eq_true tA
           have q10 : (x6_2 : Int) < ((x5_2.length : Int) : Int) := of_decide_eq_true tA
           obtain ⟨go10, co10, eo10, gb10, gl10, cl10, HG10⟩ := Kd.R_form HO_5.out (by omega)
           (first | cases eo10 | (injection eo10 with ea_ en_ ec_; (first | subst ea_ | (injection ea_ with ea_; subst ea_)); subst ec_; clear en_))
           have GB10 := Aside0.mk gb10
           have GG10 := Aside0.mk HG10
           clear gb10 gl10 HG10
           (first | simp only [add_plain] at hx106_0 | skip)
           obtain ⟨hx10_0, hf10_0⟩ := Kd.R_celln 0 HO_5.out (x6_2 : Int) p10 q10
           replace p10 := eq_true p10
           replace q10 := eq_true q10
           have HP13 := Kd.R_putn HO_5.out (x6_2 : Int) (wrap64 ((rd (rd_L2 l0 x4_1) x6_2) - (rd x5_2 x6_2)))
           rw [← Ny107.out] at HP13
           have HQ13 := Aside0.mk HP13
           clear HP13
           refine start_ (n := 16) (S := fun w' => w'.cell? (ad104.add (x4_1).toNat) = some (.slice (some ad105) (rd_L2 l0 x4_1).length c104_0) ∧ w'.cell? (ad105.add (x6_2).toNat) = some (.int .i64 (rd (rd_L2 l0 x4_1) x6_2)) ∧ w'.cell? ⟨go10, (x6_2).toNat, none⟩ = some (.int .i64 (rd x5_2 x6_2))) (ds := [15]) #[false, false, false, false, false, false, false, false, false, false, false, false, false, false, false, false] (by kernel_rfl) rfl rfl ⟨((HB.out.cell (World.block_lt_of_cell? w _ hw104_0)).trans hw104_0), ((HB.out.cell (World.block_lt_of_cell? w _ hw105_0)).trans hw105_0), hx106_0⟩ (fun hHeld => ?_); refine with_tabW earshotref03_Center.tab9 earshotref03_Center.bits9 (fun HT_ HW_ => ?_)
           generalize wr.drew = w12 at HO_3 HO_5 HB GG10 HQ13 HR104_0 hf10_0 hx104_0 hx105_0 hx106_0 hx10_0 hHeld ⊢
           refine pI 0 (some 21) (bm 1 16) HT_.out ?_
           refine pI 1 (some 22) (bm 2 16) HT_.out ?_
           refine pI 2 (some 23) (bm 3 16) HT_.out ?_
           refine pI 3 (some 24) (bm 4 16) HT_.out ?_
           refine pI 4 (some 25) (bm 5 16) HT_.out ?_
           refine pure_ (i := 6) (N := some 27) (v := ?_) (a' := ?_) #[true, true, true, true, true, false, true, false, false, false, false, false, false, false, false, false] rfl rfl (any_of HT_.out (by kernel_rfl)) (fun _ _ _ h => h) (Or.inl ⟨by rfl, ?_⟩) ?_ ?_
           rotate_left
           ·intro w'
            go_simp
            with_reducible rfl
           rotate_left
           ·simp only [Act.put, List.setIfInBounds_toArray, List.set_cons_zero, List.set_cons_succ, i64_w, i32_w]
            rfl
           refine pure_ (i := 9) (N := some 30) (v := ?_) (a' := ?_) #[true, true, true, true, true, false, true, false, false, true, false, false, false, false, false, false] rfl rfl (any_of HT_.out (by kernel_rfl)) (fun _ _ _ h => h) (Or.inl ⟨by rfl, ?_⟩) ?_ ?_
           rotate_left
           ·intro w'
            go_simp
            with_reducible rfl
           rotate_left
           ·simp only [Act.put, List.setIfInBounds_toArray, List.set_cons_zero, List.set_cons_succ, i64_w, i32_w]
            rfl
           refine pure_ (i := 10) (N := some 31) (v := ?_) (a' := ?_) #[true, true, true, true, true, false, true, false, false, true, true, false, false, false, false, false] rfl rfl (any_of HT_.out (by kernel_rfl)) (fun _ _ _ h => h) (Or.inl ⟨by rfl, ?_⟩) ?_ ?_
           rotate_left
           ·intro w'
            go_simp
            with_reducible rfl
           rotate_left
           ·simp only [Act.put, List.setIfInBounds_toArray, List.set_cons_zero, List.set_cons_succ, i64_w, i32_w]
            rfl
           refine pure_ (i := 11) (N := some 32) (v := ?_) (a' := ?_) #[true, true, true, true, true, false, true, false, false, true, true, true, false, false, false, false] rfl rfl (any_of HT_.out (by kernel_rfl)) (fun _ _ _ h => h) (Or.inl ⟨by rfl, ?_⟩) ?_ ?_
           rotate_left
           ·intro w'
            go_simp
            with_reducible rfl
           rotate_left
           ·simp only [Act.put, List.setIfInBounds_toArray, List.set_cons_zero, List.set_cons_succ, i64_w, i32_w]
            rfl
           refine take_ (i := 5) (N := some 26) (v := ?_) (a' := ?_) #[true, true, true, true, true, true, true, false, false, true, true, true, false, false, false, false] rfl rfl (take_ofW HT_.out HW_.out (by kernel_rfl)) (fun _ _ _ h => h) (Or.inl ⟨by rfl, ?_⟩) hHeld ?_ ?_
           rotate_left
           ·rintro w' ⟨s0, s1, s2⟩
            go_simp
            with_reducible rfl
           rotate_left
           ·simp only [Act.put, List.setIfInBounds_toArray, List.set_cons_zero, List.set_cons_succ, i64_w, i32_w]
            rfl
           refine pure_ (i := 7) (N := some 28) (v := ?_) (a' := ?_) #[true, true, true, true, true, true, true, true, false, true, true, true, false, false, false, false] rfl rfl (any_of HT_.out (by kernel_rfl)) (fun _ _ _ h => h) (Or.inl ⟨by rfl, ?_⟩) ?_ ?_
           rotate_left
           ·intro w'
            go_simp
            with_reducible rfl
           rotate_left
           ·simp only [Act.put, List.setIfInBounds_toArray, List.set_cons_zero, List.set_cons_succ, i64_w, i32_w]
            rfl
           refine tk3 8 (some 29) (bm 12 16) HT_.out HW_.out hHeld ?_
           refine tk3 12 (some 33) (bm 13 16) HT_.out HW_.out hHeld ?_
           refine pI 13 (some 34) (bm 14 16) HT_.out ?_
           refine pI 14 (some 35) (bm 15 16) HT_.out ?_
           refine last_ (i := 15) (N := none) #[true, true, true, true, true, true, true, true, true, true, true, true, true, true, true, true] rfl rfl (one_of HT_.out (by kernel_rfl)) (by decide) (fun K hK => ?_)
           refine skip_ (w1 := ?_) (by rfl) rfl ?_ ?_
           rotate_left
           ·go_simp
            rfl
           refine hK.out _ _ ?_
           clear hK K
           refine done_ (done_of HT_.out (by kernel_rfl)) ?_
           try go_wp2
           go_roundg k2
           case measure => have := HK1.out; have := HK2.out; omega
           case rel => exact ⟨(y107), (wrap64 (x6_2 + 1)), (by first | rfl | (simp; done) | (simp only [i64_w]; done) | (simp [*]; done)), H', ⟨by have := HK1.out; have := HK2.out; omega⟩, ⟨by (with_reducible repeat (first | apply Kd.S_alloc | apply Kd.S_drewN | apply Kd.S_drew)); exact Kd.S_mono (Kd.S_far (p := ⟨go10, (x6_2 : Int).toNat, none⟩) (Kd.S_mono HO_3.out (fun k_ hk => (⟨hk, fun e_ => hk (by rw [e_]; rfl)⟩ : _ ∧ k_ ≠ go10))) (fun _ hk => hk.2) (.int .i64 (wrap64 ((rd (rd_L2 l0 x4_1) x6_2) - (rd x5_2 x6_2))))) (fun _ hk => hk.1)⟩, ⟨tR HQ13.out⟩, ⟨by repeat (first | (with_reducible first | exact HB.out | apply below_alloc | apply pw_below_drewN | apply below_drew1 | refine below_set ?_ GB10.out) | exact HB.out)⟩⟩
          ·rw [if_neg c9] at H
           exact absurd H (by simp)
         ·rw [if_neg c8] at H
          exact absurd H (by simp)
        ·rw [if_neg c7] at H
         exact absurd H (by simp)
       ·rw [if_neg c6] at H
        exact absurd H (by simp)
      ·rw [if_neg c5] at H
       have c5b0 := decide_eq_false c5
       clear c5
       by_cases c14 : x3_1.length < 5864062014805
       ·rw [if_pos c14] at H
        have LMc14 := Aside0.mk c14
        clear c14
        obtain ⟨y108, hy108⟩ : ∃ y_ : List (List Int), y_ = (x3_1 ++ [x5_2]) := ⟨_, rfl⟩
        replace H : (earshotref03_Center.l0 k2 l0 y108 (wrap64 (x4_1 + 1))) = some r := by first | (rw [hy108]; with_reducible exact H) | (have H2_ := (Option.bind_some _ _).symm.trans H; rw [hy108]; with_reducible exact H2_) | (have H2_ := (Option.bind_some _ _).symm.trans H; with_reducible exact H2_) | with_reducible exact H | (rw [hy108]; exact H) | exact H
        have Ny108 := Aside0.mk hy108
        clear hy108
        have H' := Aside0.mk H
        clear H
        obtain ⟨Ao15, co15, eo15⟩ := Kd.R_slice HO_5.out
        subst eo15
        go_wp2_with (first | ((with_reducible refine gate_builtin (b := .append) (xs := #[.tmp 36, .tmp 38]) rfl ?_); at_builtin; refine Kd.S_append (Kd.slice 3 (Kd.int .i64)) (w0 := w) w.heap.size rfl (.tmp 36) (.tmp 38) 42 22 (.slice none 0 0) 24 rfl Tryd.underlying42 info22 rfl (by decide) (by omega) u3 x3_1 x5_2 [.slice Ao15 x5_2.length co15] (fun _ => True) (fun k_ => some k_ = (.slice Ao15 x5_2.length co15 : Value).ownBlock) rfl rfl ?aP (fun k_ hk_ => ((Kd.R_mono (ok' := fun k_ => ((fun _ => True)) k_ ∧ some k_ ≠ (u3 : Value).ownBlock) (Kd.R_apart' (HO_5.out) (Kd.S_typed HO_3.out) (by decide)) (fun k_ hk => ⟨trivial, hk.2⟩))).1 k_ hk_.symm) ?aF ?aO ?aB ?aS ?aL ?_; (case aP => exact Kd.M_row (Kd.R_mono (Kd.R_tight rfl (Kd.R_mono (ok' := fun k_ => ((fun _ => True)) k_ ∧ some k_ ≠ (u3 : Value).ownBlock) (Kd.R_apart' (HO_5.out) (Kd.S_typed HO_3.out) (by decide)) (fun k_ hk => ⟨trivial, hk.2⟩))) (fun _ h_ => h_))); (case aB => exact tB); (case aF => exact (fun _ _ => trivial)); (case aO => exact (by (with_reducible repeat (first | apply Kd.S_alloc | apply Kd.S_drewN | apply Kd.S_drew)); exact Kd.S_mono HO_3.out (fun k_ hk => ⟨trivial, fun e_ => hk e_⟩))); (case aS => exact (below_size tB)); (case aL => have := LMc14.out; omega); intro v109 w16 ho hb hg hat; rw [← Ny108.out] at ho; have n0_ := Aside0.mk (hb); have n1_ := Aside0.mk (ho); clear HB; clear HO_3; clear HO_5; have HB := n0_; have HO110 := n1_; clear n0_ n1_; clear ho hb hg hat))
        go_roundg k2
        case measure => have := HK1.out; have := HK2.out; omega
        case rel => exact ⟨(y108), (wrap64 (x4_1 + 1)), (by first | rfl | (simp; done) | (simp only [i64_w]; done) | (simp [*]; done)), H', ⟨by have := HK1.out; have := HK2.out; omega⟩, ⟨tS HO110.out⟩, ⟨tB⟩⟩
       ·rw [if_neg c14] at H
        exact absurd H (by simp)
   ·rw [if_neg c2] at H
    have c2b0 := decide_eq_false c2
    clear c2
    obtain rfl := Option.some.inj H
    go_wp2
    go_ret
    exact ⟨_, by first | rfl | (simp [errW_none, errW_some] <;> rfl) | (simp [*, errW_none, errW_some] <;> rfl), tS HO_3.out, tB⟩

end Go.Proofs.YtdlbmbijobcljaaDoor.X

namespace Go.Proofs.YtdlbmbijobcljaaDoor.Pure
open Go.RowKit Go.Proofs.YtdlbmbijobcljaaDoor.X Go.Proofs.YtdlbmbijobcljaaDoorW.PrintWords Go.Proofs.YtdlbmbijobcljaaDoorW.PrintLast Go.Proofs.YtdlbmbijobcljaaDoorW.PrintMore
set_option linter.unusedVariables false
set_option linter.unusedSimpArgs false
set_option linter.unusedSectionVars false
/-- Centered vectors. -/
def cenOf (v : List (List Int)) : List (List Int) := v.map fun x => List.zipWith opSub x (meanOf v)
/-- Vectors with differences: vector t. -/
def difAt (v : List (List Int)) (t : Nat) : List Int := v.getD t [] ++ List.zipWith opSub (v.getD (min (t + 1) (v.length - 1)) []) (v.getD (t - 1) [])
def difOf (v : List (List Int)) : List (List Int) := (List.range v.length).map (difAt v)
/-- What vecsOK says. -/
theorem vecsOK_mem (v : List (List Int)) (h : vecsOK v = true) : ∀ x ∈ v, x.length = (v.getD 0 []).length ∧ 1 ≤ x.length ∧ x.length ≤ 64 ∧ ∀ y ∈ x, -1048576 ≤ y ∧ y ≤ 1048576 := by
  intro x hx
  have h1 := List.all_eq_true.1 h x hx
  simp only [vecOne, Bool.and_eq_true, beq_iff_eq, decide_eq_true_eq] at h1
  exact ⟨h1.1.1.1, h1.1.1.2, h1.1.2, (allIn_iff _ _ _).1 h1.2⟩
theorem vecsOK_of (v : List (List Int)) (c : Nat) (h1 : 1 ≤ c) (h64 : c ≤ 64) (h : ∀ x ∈ v, x.length = c ∧ ∀ y ∈ x, -1048576 ≤ y ∧ y ≤ 1048576) : vecsOK v = true := by
  apply List.all_eq_true.2
  intro x hx
  have h0 : (v.getD 0 []).length = c := by
    cases v with
    | nil => cases hx
    | cons a l => exact (h a List.mem_cons_self).1
  obtain ⟨a, b⟩ := h x hx
  simp only [vecOne, Bool.and_eq_true, beq_iff_eq, decide_eq_true_eq]
  exact ⟨⟨⟨by omega, by omega⟩, by omega⟩, (allIn_iff _ _ _).2 b⟩
theorem meanOf_length (v : List (List Int)) : (meanOf v).length = (v.getD 0 []).length := by simp [meanOf]
theorem cenOf_length (v : List (List Int)) : (cenOf v).length = v.length := by simp [cenOf]
theorem difOf_length (v : List (List Int)) : (difOf v).length = v.length := by simp [difOf]
theorem mn_step (n t : Nat) (h : t < n) (hn : n ≤ 1000000) : mn (wrap64 ((t : Int) + 1)) (wrap64 ((n : Int) - 1)) = ((min (t + 1) (n - 1) : Nat) : Int) := by
  rw [w64 (by omega) (by omega), w64 (by omega) (by omega)]
  unfold mn
  split <;> omega
theorem mx_step (t : Nat) (h : t ≤ 1000000) : mx (wrap64 ((t : Int) - 1)) 0 = ((t - 1 : Nat) : Int) := by
  rw [w64 (by omega) (by omega)]
  unfold mx
  split <;> omega
theorem getD_mem (v : List (List Int)) (t : Nat) (h : t < v.length) : v.getD t [] ∈ v := by
  rw [List.getD_eq_getElem?_getD, List.getElem?_eq_getElem h]
  exact List.getElem_mem h
section
variable (v : List (List Int)) (c : Nat) (hv : v.length ≤ 20000) (hc : ∀ x ∈ v, x.length = c) (hc64 : c ≤ 64)
include hv hc hc64
theorem differences_ev : Ev (fun k => feature_differences.f k v) (difOf v) := by
  have e0 := up (fun j k => feature_differences.l0 k v ((List.range j).map (difAt v)) v (v.length : Int) (j : Int)) (fun _ => difOf v) v.length (by
      refine Ev.step (f := fun _ => some (difOf v)) (fun k => ?_) (Ev.now _)
      simp only [feature_differences.l0]
      rw [if_neg (by omega)]
      rfl) (by
      rintro j hj ⟨K, ih⟩
      refine ⟨K + 1, fun k hk => ?_⟩
      obtain ⟨m, rfl⟩ : ∃ m, k = m + 1 := ⟨k - 1, by omega⟩
      have ih := ih m (by omega)
      dsimp only at ih ⊢
      have l1 := hc _ (getD_mem v j hj)
      have l2 := hc _ (getD_mem v (min (j + 1) (v.length - 1)) (by omega))
      have l3 := hc _ (getD_mem v (j - 1) (by omega))
      simp only [feature_differences.l0]
      rw [mn_step v.length j hj (by omega), mx_step j (by omega), if_pos (by omega), if_pos (by omega), if_pos (by omega), if_pos (by omega), if_pos (by omega), if_pos (by omega), if_pos (by omega), rd2_nat, rd2_nat, rd2_nat]
      unfold combined_149.f slices_Clone_int_int.f
      rw [if_pos (by omega), Option.bind_some, Option.bind_some, if_pos (by simp only [List.length_nil]; omega), Option.bind_some, if_pos (by simp only [List.nil_append, List.length_zipWith]; omega), if_pos (by simp; omega), w64 (n := (j : Int) + 1) (by omega) (by omega)]
      rw [← range_map_snoc] at ih
      exact ih) 0 (by omega)
  exact e0
theorem ref_differences_ev : Ev (fun k => earshotref03_Differences.f k v) (difOf v) := by
  have e0 := up (fun j k => earshotref03_Differences.l0 k v ((List.range j).map (difAt v)) (j : Int)) (fun _ => difOf v) v.length (by
      refine Ev.step (f := fun _ => some (difOf v)) (fun k => ?_) (Ev.now _)
      simp only [earshotref03_Differences.l0]
      rw [if_neg (by omega)]
      rfl) (by
      intro j hj ih0
      have l1 := hc _ (getD_mem v j hj)
      have l2 := hc _ (getD_mem v (min (j + 1) (v.length - 1)) (by omega))
      have l3 := hc _ (getD_mem v (j - 1) (by omega))
      have lz : (List.zipWith opSub (v.getD (min (j + 1) (v.length - 1)) []) (v.getD (j - 1) [])).length = c := by rw [List.length_zipWith]; omega
      have e1 := up (fun t k => earshotref03_Differences.l1 k v ((List.range j).map (difAt v)) (j : Int) (v.getD j [] ++ (List.zipWith opSub (v.getD (min (j + 1) (v.length - 1)) []) (v.getD (j - 1) [])).take t) (v.getD (min (j + 1) (v.length - 1)) []) (v.getD (j - 1) []) (t : Int)) (fun _ => difOf v) c (by
        obtain ⟨K, ih⟩ := ih0
        refine ⟨K + 1, fun k hk => ?_⟩
        obtain ⟨m, rfl⟩ : ∃ m, k = m + 1 := ⟨k - 1, by omega⟩
        have ih := ih m (by omega)
        dsimp only at ih ⊢
        simp only [earshotref03_Differences.l1]
        rw [rd2_nat, if_pos (by omega), if_pos (by omega), if_neg (by omega), if_pos (by simp; omega), List.take_of_length_le (by omega), w64 (n := (j : Int) + 1) (by omega) (by omega)]
        rw [← range_map_snoc] at ih
        exact ih) (by
        rintro t ht ⟨K, ih⟩
        refine ⟨K + 1, fun k hk => ?_⟩
        obtain ⟨m, rfl⟩ : ∃ m, k = m + 1 := ⟨k - 1, by omega⟩
        have ih := ih m (by omega)
        dsimp only at ih ⊢
        simp only [earshotref03_Differences.l1]
        rw [rd2_nat, if_pos (by omega), if_pos (by omega), if_pos (by omega), if_pos (by omega), if_pos (by omega), if_pos (by omega), if_pos (by rw [List.length_append, List.length_take]; omega), w64 (n := (t : Int) + 1) (by omega) (by omega)]
        rw [List.take_succ_eq_append_getElem (by omega), List.getElem_zipWith, ← List.append_assoc] at ih
        rw [rd_lt _ t (by omega), rd_lt _ t (by omega)]
        exact ih) 0 (by omega)
      refine Ev.step (fun k => ?_) e1
      simp only [earshotref03_Differences.l0]
      rw [mn_step v.length j hj (by omega), mx_step j (by omega), if_pos (by omega), if_pos (by omega), rd2_nat, rd2_nat, rd2_nat, if_pos (by simp only [List.length_nil]; omega), if_pos (by omega), if_pos (by omega), if_pos (by omega), if_pos (by omega)]
      simp only [List.nil_append, List.take_zero, List.append_nil]
      rfl) 0 (by omega)
  exact e0
end
section
variable (v : List (List Int)) (c : Nat) (hv1 : 1 ≤ v.length) (hv : v.length ≤ 20000) (hc : ∀ x ∈ v, x.length = c) (hc64 : c ≤ 64) (hb : ∀ x ∈ v, ∀ y ∈ x, -1048576 ≤ y ∧ y ≤ 1048576)
include hv1 hv hc hc64 hb
theorem mean_len : (meanOf v).length = c := by
  rw [meanOf_length]
  exact hc _ (getD_mem v 0 (by omega))
theorem center_ev : Ev (fun k => feature_center.f k v) (cenOf v) := by
  have hM := mean_len v c hv1 hv hc hc64 hb
  have e0 := up (fun j k => feature_center.l0 k (meanOf v) ((v.take j).map fun x => List.zipWith opSub x (meanOf v)) v (v.length : Int) (j : Int)) (fun _ => cenOf v) v.length (by
      refine Ev.step (f := fun _ => some (cenOf v)) (fun k => ?_) (Ev.now _)
      simp only [feature_center.l0]
      rw [if_neg (by omega), List.take_length]
      rfl) (by
      rintro j hj ⟨K, ih⟩
      refine ⟨K + 1, fun k hk => ?_⟩
      obtain ⟨m, rfl⟩ : ∃ m, k = m + 1 := ⟨k - 1, by omega⟩
      have ih := ih m (by omega)
      dsimp only at ih ⊢
      have l1 := hc v[j] (List.getElem_mem hj)
      simp only [feature_center.l0]
      rw [if_pos (by omega), if_pos (by omega), if_pos (by omega), rd2_lt v j hj]
      unfold combined_151.f
      rw [if_pos (by omega), Option.bind_some, if_pos (by simp; omega), w64 (n := (j : Int) + 1) (by omega) (by omega)]
      rw [List.take_succ_eq_append_getElem hj, List.map_append] at ih
      exact ih) 0 (by omega)
  obtain ⟨K1, e1⟩ := mean_ev v c hv1 hv hc hc64 hb
  obtain ⟨K2, e2⟩ := e0
  refine ⟨K1 + K2, fun k hk => ?_⟩
  have e1 := e1 k (by omega)
  have e2 := e2 k (by omega)
  dsimp only at e1 e2 ⊢
  unfold feature_center.f
  rw [if_neg (by omega), e1, Option.bind_some]
  exact e2
theorem ref_center_ev : Ev (fun k => earshotref03_Center.f k v) (cenOf v) := by
  have hM := mean_len v c hv1 hv hc hc64 hb
  have e0 := up (fun j k => earshotref03_Center.l0 k v ((v.take j).map fun x => List.zipWith opSub x (meanOf v)) (j : Int)) (fun _ => cenOf v) v.length (by
      refine Ev.step (f := fun _ => some (cenOf v)) (fun k => ?_) (Ev.now _)
      simp only [earshotref03_Center.l0]
      rw [if_neg (by omega), List.take_length]
      rfl) (by
      intro j hj ih0
      have l1 := hc v[j] (List.getElem_mem hj)
      have lz : (List.zipWith opSub v[j] (meanOf v)).length = c := by rw [List.length_zipWith]; omega
      have e1 := up (fun t k => earshotref03_Center.l1 k v ((v.take j).map fun x => List.zipWith opSub x (meanOf v)) (j : Int) (mapTo (fun (i : Nat) => opSub (rd v[j] (i : Int)) (rd (meanOf v) (i : Int))) (meanOf v) t) (t : Int)) (fun _ => cenOf v) c (by
        obtain ⟨K, ih⟩ := ih0
        refine ⟨K + 1, fun k hk => ?_⟩
        obtain ⟨m, rfl⟩ : ∃ m, k = m + 1 := ⟨k - 1, by omega⟩
        have ih := ih m (by omega)
        dsimp only at ih ⊢
        simp only [earshotref03_Center.l1]
        have hz : mapTo (fun (i : Nat) => opSub (rd v[j] (i : Int)) (rd (meanOf v) (i : Int))) (meanOf v) c = List.zipWith opSub v[j] (meanOf v) := by
          have := mapTo_all (fun (i : Nat) => opSub (rd v[j] (i : Int)) (rd (meanOf v) (i : Int))) (meanOf v)
          rw [hM] at this
          rw [this]
          apply List.ext_getElem
          · rw [lz]; simp
          · intro i h1 h2
            rw [List.getElem_map, List.getElem_range, List.getElem_zipWith, rd_lt _ _ (by omega), rd_lt _ _ (by omega)]
        rw [mapTo_length _ _ _ (by omega), if_neg (by omega), if_pos (by simp; omega), hz, w64 (n := (j : Int) + 1) (by omega) (by omega)]
        rw [List.take_succ_eq_append_getElem hj, List.map_append] at ih
        exact ih) (by
        rintro t ht ⟨K, ih⟩
        refine ⟨K + 1, fun k hk => ?_⟩
        obtain ⟨m, rfl⟩ : ∃ m, k = m + 1 := ⟨k - 1, by omega⟩
        have ih := ih m (by omega)
        dsimp only at ih ⊢
        simp only [earshotref03_Center.l1]
        rw [mapTo_length _ _ _ (by omega), rd2_lt v j hj, if_pos (by omega), if_pos (by omega), if_pos (by omega), if_pos (by omega), if_pos (by omega), mapTo_rd _ _ _ (by omega), Int.toNat_natCast, w64 (n := (t : Int) + 1) (by omega) (by omega)]
        rw [← mapTo_set _ _ _ (by omega)] at ih
        exact ih) 0 (by omega)
      obtain ⟨K1, e1⟩ := e1
      obtain ⟨K2, e2⟩ := ref_mean_ev v c hv1 hv hc hc64 hb
      refine ⟨K1 + K2 + 1, fun k hk => ?_⟩
      obtain ⟨m, rfl⟩ : ∃ m, k = m + 1 := ⟨k - 1, by omega⟩
      have e1 := e1 m (by omega)
      have e2 := e2 m (by omega)
      dsimp only at e1 e2 ⊢
      simp only [earshotref03_Center.l0]
      rw [if_pos (by omega), e2, Option.bind_some]
      exact e1) 0 (by omega)
  exact e0
end
theorem center_nil : Ev (fun k => feature_center.f k []) [] := ⟨0, fun k _ => rfl⟩
theorem ref_center_nil : Ev (fun k => earshotref03_Center.f k []) [] := by
  refine ⟨1, fun k hk => ?_⟩
  obtain ⟨m, rfl⟩ : ∃ m, k = m + 1 := ⟨k - 1, by omega⟩
  rfl
theorem center_any (v : List (List Int)) (hv : v.length ≤ 20000) (h : vecsOK v = true) : Ev (fun k => feature_center.f k v) (cenOf v) := by
  by_cases h0 : v.length = 0
  · obtain rfl := List.eq_nil_of_length_eq_zero h0
    exact center_nil
  · have hm := vecsOK_mem v h
    have h64 := (hm _ (getD_mem v 0 (by omega))).2.2.1
    exact center_ev v (v.getD 0 []).length (by omega) hv (fun x hx => (hm x hx).1) h64 (fun x hx => (hm x hx).2.2.2)
theorem ref_center_any (v : List (List Int)) (hv : v.length ≤ 20000) (h : vecsOK v = true) : Ev (fun k => earshotref03_Center.f k v) (cenOf v) := by
  by_cases h0 : v.length = 0
  · obtain rfl := List.eq_nil_of_length_eq_zero h0
    exact ref_center_nil
  · have hm := vecsOK_mem v h
    have h64 := (hm _ (getD_mem v 0 (by omega))).2.2.1
    exact ref_center_ev v (v.getD 0 []).length (by omega) hv (fun x hx => (hm x hx).1) h64 (fun x hx => (hm x hx).2.2.2)
theorem vecsOK_c (v : List (List Int)) (h : vecsOK v = true) : (v.getD 0 []).length ≤ 64 := by
  by_cases h0 : v.length = 0
  · obtain rfl := List.eq_nil_of_length_eq_zero h0
    simp
  · exact (vecsOK_mem v h _ (getD_mem v 0 (by omega))).2.2.1
theorem differences_any (v : List (List Int)) (hv : v.length ≤ 20000) (h : vecsOK v = true) : Ev (fun k => feature_differences.f k v) (difOf v) :=
  differences_ev v (v.getD 0 []).length hv (fun x hx => (vecsOK_mem v h x hx).1) (vecsOK_c v h)
theorem ref_differences_any (v : List (List Int)) (hv : v.length ≤ 20000) (h : vecsOK v = true) : Ev (fun k => earshotref03_Differences.f k v) (difOf v) :=
  ref_differences_ev v (v.getD 0 []).length hv (fun x hx => (vecsOK_mem v h x hx).1) (vecsOK_c v h)
theorem wrong_zero (v : List (List Int)) (h : wrongOf v = 0) : v.length ≤ 10000 ∧ vecsOK v = true := by
  unfold wrongOf at h
  split at h
  · omega
  · refine ⟨by omega, ?_⟩
    cases hv : vecsOK v with
    | true => rfl
    | false => rw [hv] at h; cases h
theorem wrong_small (v : List (List Int)) (h : v.length ≤ 10000) : wrongOf v = errB (vecsOK v) := by unfold wrongOf; rw [if_neg (by omega)]
/-- What Differences and Center return. -/
def DifR (v : List (List Int)) : List (List Int) × Int := if wrongOf v = 0 then (if vecsOK (difOf v) = true then (difOf v, 0) else ([], 2)) else ([], wrongOf v)
def CenR (v : List (List Int)) : List (List Int) × Int := if wrongOf v = 0 then (if vecsOK (cenOf v) = true then (cenOf v, 0) else ([], 2)) else ([], wrongOf v)
theorem Differences_ev (v : List (List Int)) (hv : v.length ≤ 9223372036854775807) : Ev (fun k => feature_Differences.f k v) (DifR v) := by
  obtain ⟨K1, e1⟩ := vectors_ev v hv
  unfold DifR
  by_cases h : wrongOf v = 0
  · obtain ⟨a, b⟩ := wrong_zero v h
    obtain ⟨K2, e2⟩ := differences_any v (by omega) b
    obtain ⟨K3, e3⟩ := vectors_ev (difOf v) (by rw [difOf_length]; omega)
    refine ⟨K1 + K2 + K3, fun k hk => ?_⟩
    have e1 := e1 k (by omega)
    have e2 := e2 k (by omega)
    have e3 := e3 k (by omega)
    dsimp only at e1 e2 e3 ⊢
    rw [wrong_small (difOf v) (by rw [difOf_length]; omega)] at e3
    unfold feature_Differences.f
    rw [e1, Option.bind_some, if_pos h, if_pos h, e2, Option.bind_some, e3, Option.bind_some]
    cases vecsOK (difOf v) <;> rfl
  · rw [if_neg h]
    refine ⟨K1, fun k hk => ?_⟩
    have e1 := e1 k (by omega)
    dsimp only at e1 ⊢
    unfold feature_Differences.f
    rw [e1, Option.bind_some, if_neg h]
theorem Center_ev (v : List (List Int)) (hv : v.length ≤ 9223372036854775807) : Ev (fun k => feature_Center.f k v) (CenR v) := by
  obtain ⟨K1, e1⟩ := vectors_ev v hv
  unfold CenR
  by_cases h : wrongOf v = 0
  · obtain ⟨a, b⟩ := wrong_zero v h
    obtain ⟨K2, e2⟩ := center_any v (by omega) b
    obtain ⟨K3, e3⟩ := vectors_ev (cenOf v) (by rw [cenOf_length]; omega)
    refine ⟨K1 + K2 + K3, fun k hk => ?_⟩
    have e1 := e1 k (by omega)
    have e2 := e2 k (by omega)
    have e3 := e3 k (by omega)
    dsimp only at e1 e2 e3 ⊢
    rw [wrong_small (cenOf v) (by rw [cenOf_length]; omega)] at e3
    unfold feature_Center.f
    rw [e1, Option.bind_some, if_pos h, if_pos h, e2, Option.bind_some, e3, Option.bind_some]
    cases vecsOK (cenOf v) <;> rfl
  · rw [if_neg h]
    refine ⟨K1, fun k hk => ?_⟩
    have e1 := e1 k (by omega)
    dsimp only at e1 ⊢
    unfold feature_Center.f
    rw [e1, Option.bind_some, if_neg h]
end Go.Proofs.YtdlbmbijobcljaaDoor.Pure

namespace Go.Proofs.YtdlbmbijobcljaaDoor.Pure
open Go.RowKit Go.Proofs.YtdlbmbijobcljaaDoor.X Go.Proofs.YtdlbmbijobcljaaDoorW.PrintWords Go.Proofs.YtdlbmbijobcljaaDoorW.PrintLast
theorem known_ev : Ev (fun k => earshotlaw03_known.f k) true := Ev.of (k := 2000) earshotlaw03_known.mono (by decide +kernel)
end Go.Proofs.YtdlbmbijobcljaaDoor.Pure

namespace Go.Proofs.YtdlbmbijobcljaaDoor.Pure
open Go.RowKit Go.Proofs.YtdlbmbijobcljaaDoor.X Go.Proofs.YtdlbmbijobcljaaDoorW.PrintWords Go.Proofs.YtdlbmbijobcljaaDoorW.PrintLast Go.Proofs.YtdlbmbijobcljaaDoorW.PrintMore
set_option linter.unusedVariables false
set_option linter.unusedSimpArgs false
set_option linter.unusedSectionVars false
theorem rnd_zero (S n : Int) (h0 : -n < 2 * S) (h1 : 2 * S < n) : rnd S n = 0 := by
  unfold rnd
  split
  · rw [Int.ediv_eq_zero_of_lt (by omega) (by omega)]; rfl
  · exact Int.ediv_eq_zero_of_lt (by omega) (by omega)
theorem rnd_near2 (S n : Int) (hn : 0 < n) : 2 * (n * rnd S n) - n ≤ 2 * S ∧ 2 * S ≤ 2 * (n * rnd S n) + n := by
  have key : ∀ y : Int, 0 ≤ y → 2 * (n * ((2 * y + n) / (2 * n))) - n ≤ 2 * y ∧ 2 * y ≤ 2 * (n * ((2 * y + n) / (2 * n))) + n := by
    intro y hy
    have h1 := Int.mul_ediv_add_emod (2 * y + n) (2 * n)
    have h2 := Int.emod_nonneg (2 * y + n) (show 2 * n ≠ 0 by omega)
    have h3 := Int.emod_lt_of_pos (2 * y + n) (show 0 < 2 * n by omega)
    have e : 2 * n * ((2 * y + n) / (2 * n)) = 2 * (n * ((2 * y + n) / (2 * n))) := Int.mul_assoc _ _ _
    rw [e] at h1
    omega
  unfold rnd
  split
  · have := key (-S) (by omega)
    have e : n * -((2 * -S + n) / (2 * n)) = -(n * ((2 * -S + n) / (2 * n))) := Int.mul_neg _ _
    rw [e]
    omega
  · exact key S (by omega)
theorem getD_lt (v : List (List Int)) (j : Nat) (h : j < v.length) : v.getD j [] = v[j] := by rw [List.getD_eq_getElem?_getD, List.getElem?_eq_getElem h]; rfl
/-- The sum of a component of centered vectors. -/
def cenSum (v : List (List Int)) (i : Nat) : Int := sumL (fun x => rd x (i : Int)) (cenOf v)
theorem known_step (g : Nat → Option Bool) (h : ∀ k, g (k + 1) = (earshotlaw03_known.f k).bind fun t => some t) : Ev g true := by
  obtain ⟨K, e⟩ := known_ev
  refine ⟨K + 1, fun k hk => ?_⟩
  obtain ⟨m, rfl⟩ : ∃ m, k = m + 1 := ⟨k - 1, by omega⟩
  have e := e m (by omega)
  dsimp only at e
  rw [h, e]
  rfl
section
variable (v : List (List Int)) (c : Nat) (hv1 : 1 ≤ v.length) (hv : v.length ≤ 10000) (hc : ∀ x ∈ v, x.length = c) (hc1 : 1 ≤ c) (hc64 : c ≤ 64) (hb : ∀ x ∈ v, ∀ y ∈ x, -1048576 ≤ y ∧ y ≤ 1048576)
include hv1 hv hc hc1 hc64 hb
theorem head_len : (v.getD 0 []).length = c := hc _ (getD_mem v 0 (by omega))
theorem mean_rd (i : Nat) (hi : i < c) : rd (meanOf v) (i : Int) = rnd (sumL (fun x => rd x (i : Int)) v) (v.length : Int) ∧ -1048576 ≤ rd (meanOf v) (i : Int) ∧ rd (meanOf v) (i : Int) ≤ 1048576 := by
  have h0 := head_len v c hv1 hv hc hc1 hc64 hb
  have e : rd (meanOf v) (i : Int) = rnd (sumL (fun x => rd x (i : Int)) v) (v.length : Int) := by
    rw [rd_lt _ i (by rw [show (meanOf v).length = (v.getD 0 []).length by simp only [meanOf, List.length_map, List.length_range]]; omega)]
    simp [meanOf]
  have hcb := col_bound v c hv1 (by omega) hc hc64 hb i v.length
  rw [List.take_length] at hcb
  have := rnd_abs_le (sumL (fun x => rd x (i : Int)) v) (v.length : Int) 1048576 (by omega) (by omega) (by omega)
  rw [e]
  exact ⟨rfl, this⟩
theorem cen_get (t : Nat) (ht : t < v.length) : (cenOf v).getD t [] = List.zipWith opSub v[t] (meanOf v) := by
  rw [getD_lt _ _ (by rw [cenOf_length]; exact ht)]
  simp [cenOf]
theorem zip_rd (x : List Int) (hx : x ∈ v) (i : Nat) (hi : i < c) : rd (List.zipWith opSub x (meanOf v)) (i : Int) = rd x (i : Int) - rd (meanOf v) (i : Int) := by
  have hm := mean_len v c hv1 (by omega) hc hc64 hb
  have hl := hc x hx
  have h1 := mean_rd v c hv1 hv hc hc1 hc64 hb i hi
  have h2 := rd_bound x 1048576 (by omega) (hb x hx) (i : Int)
  rw [rd_lt _ i (by rw [List.length_zipWith]; omega), List.getElem_zipWith]
  unfold opSub
  rw [rd_lt x i (by omega)] at h2 ⊢
  rw [rd_lt (meanOf v) i (by omega)] at h1 ⊢
  rw [w64 (by omega) (by omega)]
theorem cen_rd (t : Nat) (ht : t < v.length) (i : Nat) (hi : i < c) : rd (rd_L2 (cenOf v) (t : Int)) (i : Int) = rd v[t] (i : Int) - rd (meanOf v) (i : Int) := by
  rw [rd2_nat, cen_get v c hv1 hv hc hc1 hc64 hb t ht]
  exact zip_rd v c hv1 hv hc hc1 hc64 hb _ (List.getElem_mem ht) i hi
theorem cen_take (i : Nat) (hi : i < c) : ∀ j, j ≤ v.length → sumL (fun x => rd x (i : Int)) ((cenOf v).take j) = sumL (fun x => rd x (i : Int)) (v.take j) - (j : Int) * rd (meanOf v) (i : Int) := by
  intro j
  induction j with
  | zero => intro _; simp [sumL]
  | succ j ih =>
    intro hj
    have h1 := cen_rd v c hv1 hv hc hc1 hc64 hb j (by omega) i hi
    rw [rd2_nat, getD_lt _ _ (by rw [cenOf_length]; omega)] at h1
    have e : ((j + 1 : Nat) : Int) * rd (meanOf v) (i : Int) = (j : Int) * rd (meanOf v) (i : Int) + rd (meanOf v) (i : Int) := by rw [Int.natCast_add, Int.add_mul]; simp
    rw [sumL_take _ _ _ (by rw [cenOf_length]; omega), sumL_take _ _ _ (by omega), ih (by omega), h1, e]
    omega
theorem cen_sum_bound (i : Nat) (hi : i < c) : -(v.length : Int) ≤ 2 * cenSum v i ∧ 2 * cenSum v i ≤ (v.length : Int) := by
  have h := cen_take v c hv1 hv hc hc1 hc64 hb i hi v.length (Nat.le_refl _)
  rw [List.take_length, List.take_of_length_le (by rw [cenOf_length]; exact Nat.le_refl _)] at h
  have h1 := (mean_rd v c hv1 hv hc hc1 hc64 hb i hi).1
  have h2 := rnd_near2 (sumL (fun x => rd x (i : Int)) v) (v.length : Int) (by omega)
  unfold cenSum
  rw [h, h1]
  omega
theorem part_bound (i : Nat) (hi : i < c) (j : Nat) (hj : j ≤ v.length) : -20971520000 ≤ sumL (fun x => rd x (i : Int)) ((cenOf v).take j) ∧ sumL (fun x => rd x (i : Int)) ((cenOf v).take j) ≤ 20971520000 := by
  have h1 := sumL_bound (fun x => rd x (i : Int)) 2097152 ((cenOf v).take j) (fun x hx => by
    obtain ⟨y, hy, rfl⟩ := List.mem_map.1 (List.mem_of_mem_take hx)
    have h1 := mean_rd v c hv1 hv hc hc1 hc64 hb i hi
    have h2 := rd_bound y 1048576 (by omega) (hb y hy) (i : Int)
    rw [zip_rd v c hv1 hv hc hc1 hc64 hb y hy i hi]
    omega)
  have h2 : ((cenOf v).take j).length ≤ j := List.length_take_le _ _
  omega
/-- Centered vectors whose sums are small stay. -/
theorem again_same (h : ∀ i, i < c → -(v.length : Int) < 2 * cenSum v i ∧ 2 * cenSum v i < (v.length : Int)) : cenOf (cenOf v) = cenOf v := by
  have hm := mean_len v c hv1 (by omega) hc hc64 hb
  have hrow : ∀ x ∈ cenOf v, x.length = c := by
    intro x hx
    obtain ⟨y, hy, rfl⟩ := List.mem_map.1 hx
    rw [List.length_zipWith, hc y hy, hm, Nat.min_self]
  have hz : meanOf (cenOf v) = List.replicate c 0 := by
    have h0 : ((cenOf v).getD 0 []).length = c := hrow _ (getD_mem _ 0 (by rw [cenOf_length]; omega))
    apply List.ext_getElem
    · simp only [meanOf, List.length_map, List.length_range, List.length_replicate, h0]
    · intro i h1 h2
      have hi : i < c := by simpa using h2
      rw [List.getElem_replicate]
      simp only [meanOf, List.getElem_map, List.getElem_range]
      rw [cenOf_length]
      exact rnd_zero _ _ (h i hi).1 (h i hi).2
  have e1 : cenOf (cenOf v) = (cenOf v).map fun x => List.zipWith opSub x (meanOf (cenOf v)) := rfl
  rw [e1, hz]
  have e2 : ∀ x ∈ cenOf v, List.zipWith opSub x (List.replicate c 0) = x := by
    intro x hx
    have hl := hrow x hx
    apply List.ext_getElem
    · rw [List.length_zipWith, List.length_replicate, hl, Nat.min_self]
    · intro i h1 h2
      have hi : i < c := by omega
      rw [List.getElem_zipWith, List.getElem_replicate]
      unfold opSub
      obtain ⟨y, hy, rfl⟩ := List.mem_map.1 hx
      have h3 := mean_rd v c hv1 hv hc hc1 hc64 hb i hi
      have h4 := rd_bound y 1048576 (by omega) (hb y hy) (i : Int)
      have h5 := zip_rd v c hv1 hv hc hc1 hc64 hb y hy i hi
      rw [rd_lt _ i (by omega)] at h5
      rw [Int.sub_zero, w64 (by omega) (by omega)]
  exact (List.map_congr_left e2).trans (List.map_id' _)
/-! The differences' sums. -/
theorem dif_len (t : Nat) (ht : t < v.length) : (difAt v t).length = c + c := by
  have l1 := hc _ (getD_mem v t ht)
  have l2 := hc _ (getD_mem v (min (t + 1) (v.length - 1)) (by omega))
  have l3 := hc _ (getD_mem v (t - 1) (by omega))
  unfold difAt
  rw [List.length_append, List.length_zipWith]
  omega
theorem dif_rd (t : Nat) (ht : t < v.length) (i : Nat) (hi : i < c) : rd (difAt v t) ((c + i : Nat) : Int) = rd (v.getD (min (t + 1) (v.length - 1)) []) (i : Int) - rd (v.getD (t - 1) []) (i : Int) := by
  have l1 := hc _ (getD_mem v t ht)
  have l2 := hc _ (getD_mem v (min (t + 1) (v.length - 1)) (by omega))
  have l3 := hc _ (getD_mem v (t - 1) (by omega))
  have b2 := rd_bound _ 1048576 (by omega) (hb _ (getD_mem v (min (t + 1) (v.length - 1)) (by omega))) (i : Int)
  have b3 := rd_bound _ 1048576 (by omega) (hb _ (getD_mem v (t - 1) (by omega))) (i : Int)
  have hd := dif_len v c hv1 hv hc hc1 hc64 hb t ht
  rw [rd_lt _ (c + i) (by omega)]
  unfold difAt
  rw [List.getElem_append_right (by omega), List.getElem_zipWith]
  unfold opSub
  rw [rd_lt _ i (by omega)] at b2 b3 ⊢
  rw [rd_lt _ i (by omega)]
  simp only [l1, Nat.add_sub_cancel_left]
  rw [w64 (by omega) (by omega)]
def difSum (v : List (List Int)) (c i : Nat) : Nat → Int
  | 0 => 0
  | j + 1 => difSum v c i j + rd (difAt v j) ((c + i : Nat) : Int)
theorem dif_sum (i : Nat) (hi : i < c) : ∀ j, j ≤ v.length → (j = 0 → difSum v c i j = 0) ∧ (1 ≤ j → j < v.length → difSum v c i j = rd (v.getD j []) (i : Int) + rd (v.getD (j - 1) []) (i : Int) - rd (v.getD 0 []) (i : Int) - rd (v.getD 0 []) (i : Int)) ∧ (j = v.length → difSum v c i j = rd (v.getD (v.length - 1) []) (i : Int) + rd (v.getD (v.length - 1) []) (i : Int) - rd (v.getD 0 []) (i : Int) - rd (v.getD 0 []) (i : Int)) := by
  intro j
  induction j with
  | zero => intro _; exact ⟨fun _ => rfl, fun h => by omega, fun h => by omega⟩
  | succ j ih =>
    intro hj
    have h := ih (by omega)
    have hd := dif_rd v c hv1 hv hc hc1 hc64 hb j (by omega) i hi
    simp only [difSum]
    rw [hd]
    refine ⟨fun h => by omega, fun _ hlt => ?_, fun he => ?_⟩
    · rw [show min (j + 1) (v.length - 1) = j + 1 by omega, show j + 1 - 1 = j by omega]
      by_cases h0 : j = 0
      · subst h0
        have := h.1 rfl
        rw [this]
        simp only [Nat.zero_sub]
        omega
      · have := h.2.1 (by omega) (by omega)
        rw [this]
        omega
    · rw [show min (j + 1) (v.length - 1) = v.length - 1 by omega]
      by_cases h0 : j = 0
      · subst h0
        have := h.1 rfl
        rw [this, show v.length - 1 = 0 by omega]
        simp only [Nat.zero_sub]
        omega
      · have := h.2.1 (by omega) (by omega)
        rw [this, show v.length - 1 = j by omega]
        omega
theorem dif_bound (i : Nat) (hi : i < c) (j : Nat) (hj : j ≤ v.length) : -4194304 ≤ difSum v c i j ∧ difSum v c i j ≤ 4194304 := by
  have h := dif_sum v c hv1 hv hc hc1 hc64 hb i hi j hj
  have b0 := rd_bound _ 1048576 (by omega) (hb _ (getD_mem v 0 (by omega))) (i : Int)
  by_cases h0 : j = 0
  · have := h.1 h0; omega
  · by_cases h1 : j = v.length
    · have := h.2.2 h1
      have b1 := rd_bound _ 1048576 (by omega) (hb _ (getD_mem v (v.length - 1) (by omega))) (i : Int)
      omega
    · have := h.2.1 (by omega) (by omega)
      have b1 := rd_bound _ 1048576 (by omega) (hb _ (getD_mem v j (by omega))) (i : Int)
      have b2 := rd_bound _ 1048576 (by omega) (hb _ (getD_mem v (j - 1) (by omega))) (i : Int)
      omega
theorem l2_ev : Ev (fun k => earshotlaw03_FeatureCenters.l2 k v (difOf v) (v.length : Int) 0) true := by
  have h0 := head_len v c hv1 hv hc hc1 hc64 hb
  have e := up (fun i k => earshotlaw03_FeatureCenters.l2 k v (difOf v) (v.length : Int) (i : Int)) (fun _ => true) c (by
      refine known_step _ (fun k => ?_)
      simp only [earshotlaw03_FeatureCenters.l2]
      rw [if_pos (by omega), rd2_zero, h0, if_neg (by omega)]) (by
      intro i hi ih0
      have hin := up (fun j k => earshotlaw03_FeatureCenters.l3 k v (difOf v) (v.length : Int) (i : Int) (difSum v c i j) (j : Int)) (fun _ => true) v.length (by
          have hs := (dif_sum v c hv1 hv hc hc1 hc64 hb i hi v.length (Nat.le_refl _)).2.2 rfl
          have b0 := rd_bound _ 1048576 (by omega) (hb _ (getD_mem v 0 (by omega))) (i : Int)
          have b1 := rd_bound _ 1048576 (by omega) (hb _ (getD_mem v (v.length - 1) (by omega))) (i : Int)
          have l1 := hc _ (getD_mem v (v.length - 1) (by omega))
          refine Ev.step (fun k => ?_) ih0
          simp only [earshotlaw03_FeatureCenters.l3]
          rw [if_neg (by omega), w64 (n := (v.length : Int) - 1) (by omega) (by omega), show (v.length : Int) - 1 = ((v.length - 1 : Nat) : Int) by omega, rd2_zero, rd2_nat, h0, l1, if_pos (by omega), if_pos (by omega), if_pos (by omega), if_pos (by omega), if_pos (by omega), if_pos (by omega), w64 (n := (i : Int) + 1) (by omega) (by omega),
            w64 (n := rd (v.getD (v.length - 1) []) (i : Int) + rd (v.getD (v.length - 1) []) (i : Int)) (by omega) (by omega), w64 (n := rd (v.getD (v.length - 1) []) (i : Int) + rd (v.getD (v.length - 1) []) (i : Int) - rd (v.getD 0 []) (i : Int)) (by omega) (by omega), w64 (by omega) (by omega)]
          by_cases hn : (v.length : Int) > 1
          · rw [if_pos hn, if_pos hs]; rfl
          · rw [if_neg hn]; rfl) (by
          rintro j hj ⟨K, ih⟩
          refine ⟨K + 1, fun k hk => ?_⟩
          obtain ⟨m, rfl⟩ : ∃ m, k = m + 1 := ⟨k - 1, by omega⟩
          have ih := ih m (by omega)
          dsimp only at ih ⊢
          have b1 := dif_bound v c hv1 hv hc hc1 hc64 hb i hi (j + 1) (by omega)
          have hr : rd_L2 (difOf v) (j : Int) = difAt v j := by
            rw [rd2_nat, getD_lt _ _ (by rw [difOf_length]; exact hj)]
            simp [difOf]
          have hl := dif_len v c hv1 hv hc hc1 hc64 hb j hj
          simp only [difSum] at b1 ih
          simp only [earshotlaw03_FeatureCenters.l3]
          rw [rd2_zero, h0, hr, hl, w64 (n := 2 * (c : Int)) (by omega) (by omega), w64 (n := (c : Int) + (i : Int)) (by omega) (by omega), show (c : Int) + (i : Int) = ((c + i : Nat) : Int) by omega, if_pos (by omega), if_pos (by omega), if_pos (by rw [difOf_length]; omega), if_pos (by omega), if_pos (by omega), if_pos (by omega), if_pos (by omega), w64 (by omega) (by omega), w64 (n := (j : Int) + 1) (by omega) (by omega)]
          exact ih) 0 (by omega)
      refine Ev.step (fun k => ?_) hin
      simp only [earshotlaw03_FeatureCenters.l2]
      rw [if_pos (by omega), rd2_zero, h0, if_pos (by omega)]
      rfl) 0 (by omega)
  exact e
theorem j3_ev (hw : wrongOf v = 0) : Ev (fun k => earshotlaw03_FeatureCenters.j3 k v) true := by
  obtain ⟨K1, e1⟩ := Differences_ev v (by omega)
  have hd : DifR v = if vecsOK (difOf v) = true then (difOf v, 0) else ([], 2) := by unfold DifR; rw [if_pos hw]
  rw [hd] at e1
  cases h : vecsOK (difOf v) with
  | true =>
    rw [h, if_pos rfl] at e1
    obtain ⟨K2, e2⟩ := l2_ev v c hv1 hv hc hc1 hc64 hb
    refine ⟨K1 + K2 + 1, fun k hk => ?_⟩
    obtain ⟨m, rfl⟩ : ∃ m, k = m + 1 := ⟨k - 1, by omega⟩
    have e1 := e1 m (by omega)
    have e2 := e2 m (by omega)
    dsimp only at e1 e2 ⊢
    simp only [earshotlaw03_FeatureCenters.j3]
    rw [e1, Option.bind_some, if_pos rfl, if_pos (by rw [difOf_length])]
    exact e2
  | false =>
    rw [h, if_neg (by simp)] at e1
    obtain ⟨K2, e2⟩ := known_ev
    refine ⟨K1 + K2 + 1, fun k hk => ?_⟩
    obtain ⟨m, rfl⟩ : ∃ m, k = m + 1 := ⟨k - 1, by omega⟩
    have e1 := e1 m (by omega)
    have e2 := e2 m (by omega)
    dsimp only at e1 e2 ⊢
    simp only [earshotlaw03_FeatureCenters.j3]
    rw [e1, Option.bind_some, if_neg (by omega), e2]
    rfl
theorem l1_ev (B : List (List Int)) (f : Int) (i : Nat) (hi : i < c) (h : (-(v.length : Int) < 2 * cenSum v i ∧ 2 * cenSum v i < (v.length : Int)) → Ev (fun k => earshotlaw03_FeatureCenters.l0 k v (cenOf v) B f ((i + 1 : Nat) : Int)) true) : Ev (fun k => earshotlaw03_FeatureCenters.l1 k v (cenOf v) B f (i : Int) 0 0) true := by
  have hm := mean_len v c hv1 (by omega) hc hc64 hb
  have e := up (fun j k => earshotlaw03_FeatureCenters.l1 k v (cenOf v) B f (i : Int) (sumL (fun x => rd x (i : Int)) ((cenOf v).take j)) (j : Int)) (fun _ => true) v.length (by
      have hbd := cen_sum_bound v c hv1 hv hc hc1 hc64 hb i hi
      have hS : sumL (fun x => rd x (i : Int)) ((cenOf v).take v.length) = cenSum v i := by rw [List.take_of_length_le (by rw [cenOf_length]; exact Nat.le_refl _)]; rfl
      have hmx : mx (cenSum v i) (wrap64 (-(cenSum v i))) = if cenSum v i < 0 then -(cenSum v i) else cenSum v i := by
        rw [w64 (by omega) (by omega)]
        unfold mx
        split <;> split <;> omega
      have hmb : 0 ≤ (if cenSum v i < 0 then -(cenSum v i) else cenSum v i) ∧ 2 * (if cenSum v i < 0 then -(cenSum v i) else cenSum v i) ≤ (v.length : Int) := by split <;> omega
      by_cases heq : 2 * (if cenSum v i < 0 then -(cenSum v i) else cenSum v i) = (v.length : Int)
      · refine known_step _ (fun k => ?_)
        simp only [earshotlaw03_FeatureCenters.l1]
        rw [hS, if_neg (by rw [cenOf_length]; omega), hmx, w64 (by omega) (by omega), if_neg (by omega), if_pos heq]
      · refine Ev.step (fun k => ?_) (h (by split at heq <;> split at hmb <;> omega))
        simp only [earshotlaw03_FeatureCenters.l1]
        rw [hS, if_neg (by rw [cenOf_length]; omega), hmx, w64 (n := 2 * (if cenSum v i < 0 then -(cenSum v i) else cenSum v i)) (by omega) (by omega), if_neg (by omega), if_neg heq, w64 (n := (i : Int) + 1) (by omega) (by omega)]
        rfl) (by
      rintro j hj ⟨K, ih⟩
      refine ⟨K + 1, fun k hk => ?_⟩
      obtain ⟨m, rfl⟩ : ∃ m, k = m + 1 := ⟨k - 1, by omega⟩
      have ih := ih m (by omega)
      dsimp only at ih ⊢
      have hb1 := part_bound v c hv1 hv hc hc1 hc64 hb i hi (j + 1) (by omega)
      have hjc : j < (cenOf v).length := by rw [cenOf_length]; exact hj
      have hl : (cenOf v)[j].length = c := by
        rw [← getD_lt _ _ hjc, cen_get v c hv1 hv hc hc1 hc64 hb j hj, List.length_zipWith, hc _ (List.getElem_mem hj), hm, Nat.min_self]
      rw [sumL_take _ _ _ hjc] at ih hb1
      simp only [earshotlaw03_FeatureCenters.l1]
      rw [rd2_lt _ j hjc, hl, if_pos (by omega), if_pos (by omega), if_pos (by omega), if_pos (by omega), w64 (by omega) (by omega), w64 (n := (j : Int) + 1) (by omega) (by omega)]
      exact ih) 0 (by omega)
  exact e
theorem l0_ev (hw : wrongOf v = 0) (hok : vecsOK (cenOf v) = true) : Ev (fun k => earshotlaw03_FeatureCenters.l0 k v (cenOf v) (CenR (cenOf v)).1 (CenR (cenOf v)).2 0) true := by
  have h0 := head_len v c hv1 hv hc hc1 hc64 hb
  have key : ∀ d i, i + d = c → (∀ q, q < i → -(v.length : Int) < 2 * cenSum v q ∧ 2 * cenSum v q < (v.length : Int)) → Ev (fun k => earshotlaw03_FeatureCenters.l0 k v (cenOf v) (CenR (cenOf v)).1 (CenR (cenOf v)).2 (i : Int)) true := by
    intro d
    induction d with
    | zero =>
      intro i hi hall
      have hs := again_same v c hv1 hv hc hc1 hc64 hb (fun q hq => hall q (by omega))
      have hR : CenR (cenOf v) = (cenOf v, 0) := by
        unfold CenR
        rw [wrong_small _ (by rw [cenOf_length]; omega), hok, if_pos (show errB true = 0 from rfl), hs, hok, if_pos rfl]
      rw [hR]
      obtain ⟨K1, e1⟩ := sameLists_dec (cenOf v) (cenOf v) (by rw [cenOf_length]; omega) (fun x hx => by have := (vecsOK_mem _ hok x hx).2.2.1; omega)
      obtain ⟨K2, e2⟩ := j3_ev v c hv1 hv hc hc1 hc64 hb hw
      refine ⟨K1 + K2 + 1, fun k hk => ?_⟩
      obtain ⟨m, rfl⟩ : ∃ m, k = m + 1 := ⟨k - 1, by omega⟩
      have e1 := e1 m (by omega)
      have e2 := e2 m (by omega)
      dsimp only at e1 e2 ⊢
      rw [decide_eq_true rfl] at e1
      simp only [earshotlaw03_FeatureCenters.l0]
      rw [if_pos (by omega), rd2_zero, h0, if_neg (by omega), if_pos trivial, e1, Option.bind_some, if_pos rfl]
      exact e2
    | succ d ih =>
      intro i hi hall
      have e := l1_ev v c hv1 hv hc hc1 hc64 hb (CenR (cenOf v)).1 (CenR (cenOf v)).2 i (by omega) (fun hs => ih (i + 1) (by omega) (fun q hq => by
        by_cases hqi : q = i
        · subst hqi; exact hs
        · exact hall q (by omega)))
      refine Ev.step (fun k => ?_) e
      simp only [earshotlaw03_FeatureCenters.l0]
      rw [if_pos (by omega), rd2_zero, h0, if_pos (by omega)]
  exact key c 0 (by omega) (fun q hq => by omega)
theorem j0_ev (hw : wrongOf v = 0) : Ev (fun k => earshotlaw03_FeatureCenters.j0 k v false) true := by
  obtain ⟨K1, e1⟩ := Center_ev v (by omega)
  have hC : CenR v = if vecsOK (cenOf v) = true then (cenOf v, 0) else ([], 2) := by unfold CenR; rw [if_pos hw]
  rw [hC] at e1
  cases h : vecsOK (cenOf v) with
  | true =>
    rw [h, if_pos rfl] at e1
    obtain ⟨K2, e2⟩ := Center_ev (cenOf v) (by rw [cenOf_length]; omega)
    obtain ⟨K3, e3⟩ := l0_ev v c hv1 hv hc hc1 hc64 hb hw h
    refine ⟨K1 + K2 + K3 + 1, fun k hk => ?_⟩
    obtain ⟨m, rfl⟩ : ∃ m, k = m + 1 := ⟨k - 1, by omega⟩
    have e1 := e1 m (by omega)
    have e2 := e2 m (by omega)
    have e3 := e3 m (by omega)
    dsimp only at e1 e2 e3 ⊢
    simp only [earshotlaw03_FeatureCenters.j0]
    rw [if_neg (by simp), e1, Option.bind_some, if_pos rfl, e2, Option.bind_some]
    exact e3
  | false =>
    rw [h, if_neg (by simp)] at e1
    obtain ⟨K2, e2⟩ := j3_ev v c hv1 hv hc hc1 hc64 hb hw
    refine ⟨K1 + K2 + 1, fun k hk => ?_⟩
    obtain ⟨m, rfl⟩ : ∃ m, k = m + 1 := ⟨k - 1, by omega⟩
    have e1 := e1 m (by omega)
    have e2 := e2 m (by omega)
    dsimp only at e1 e2 ⊢
    simp only [earshotlaw03_FeatureCenters.j0]
    rw [if_neg (by simp), e1, Option.bind_some, if_neg (by omega)]
    exact e2
end
theorem centers_known (v : List (List Int)) : Ev (fun k => earshotlaw03_FeatureCenters.j0 k v true) true := by
  refine known_step _ (fun k => ?_)
  simp only [earshotlaw03_FeatureCenters.j0]
  rw [if_pos trivial]
theorem centers_ev (v : List (List Int)) (hv : v.length ≤ 9223372036854775807) : Ev (fun k => earshotlaw03_FeatureCenters.f k v) true := by
  obtain ⟨K0, e0⟩ := few_ev v 40 (by omega) hv
  obtain ⟨K1, e1⟩ := Wrong_ev v hv
  have c40 : (40 : Int) = ((40 : Nat) : Int) := rfl
  have main : ∃ x : Bool, Ev (fun k => earshotlaw03_FeatureCenters.j0 k v x) true ∧ ∀ k, (if fewOf v 40 = true then (if wrongOf v = 0 then (earshotlaw03_FeatureCenters.j0 k v ((v.length : Int) == 0)) else (earshotlaw03_FeatureCenters.j0 k v true)) else (earshotlaw03_FeatureCenters.j0 k v true)) = earshotlaw03_FeatureCenters.j0 k v x := by
    cases h0 : fewOf v 40 with
    | false => exact ⟨true, centers_known v, fun k => by rw [if_neg (by simp)]⟩
    | true =>
      by_cases hw : wrongOf v = 0
      · by_cases hl : v.length = 0
        · exact ⟨true, centers_known v, fun k => by rw [if_pos rfl, if_pos hw, show ((v.length : Int) == 0) = true from beq_iff_eq.2 (by omega)]⟩
        · obtain ⟨a, b⟩ := wrong_zero v hw
          have hm := vecsOK_mem v b
          have h0 := hm _ (getD_mem v 0 (by omega))
          exact ⟨false, j0_ev v (v.getD 0 []).length (by omega) a (fun x hx => (hm x hx).1) h0.2.1 h0.2.2.1 (fun x hx => (hm x hx).2.2.2) hw, fun k => by rw [if_pos rfl, if_pos hw, show ((v.length : Int) == 0) = false from beq_eq_false_iff_ne.2 (by omega)]⟩
      · exact ⟨true, centers_known v, fun k => by rw [if_pos rfl, if_neg hw]⟩
  obtain ⟨x, ⟨K3, e3⟩, hx⟩ := main
  refine ⟨K0 + K1 + K3, fun k hk => ?_⟩
  have e0 := e0 k (by omega)
  have e1 := e1 k (by omega)
  have e3 := e3 k (by omega)
  dsimp only at e0 e1 e3 ⊢
  have hx := hx k
  unfold earshotlaw03_FeatureCenters.f
  rw [c40, e0, Option.bind_some, e1, Option.bind_some, hx]
  exact e3
theorem FeatureCenters (v : List (List Int)) (hv : v.length ≤ 9223372036854775807) : ∃ k, earshotlaw03_FeatureCenters.f k v = some true := (centers_ev v hv).rounds
end Go.Proofs.YtdlbmbijobcljaaDoor.Pure

/-! What an argument that reads as a slice of numbers, or of slices of numbers, gives the walks. -/
namespace Go.Proofs.YtdlbmbijobcljaaDoor
open Go Go.ChangeShapes Go.WideShapes Go.Deep Go.RowKit Go.Proofs.YtdlbmbijobcljaaDoorW.PrintWords
theorem cells3 : Tryd.prog.cellsOf 3 = 1 := by kernel_rfl
theorem cells22 : Tryd.prog.cellsOf 22 = 1 := by kernel_rfl
theorem ints_of_trod {H : Type} {enc : TypeId × Value → H} {W : World} {base : Nat} {held : Bool} {a : Option Addr} {len cap : Nat} {d : DataW H} {ps : List MemPlace}
    (h : DataW.Trod enc Tryd.prog W base (fun _ => true) held 22 (.slice a len cap) d ps) : ∃ z : List Int, z.length = len ∧ len ≤ cap ∧ len ≤ 9223372036854775807 ∧ Kd.C (Kd.int .i64) W a len z ∧ ∀ n ∈ z, (Lit.int .i64 n).wf = true := by
  obtain ⟨fuel, hf⟩ := h
  rcases open_ints Tryd.underlying22 Tryd.underlying3 cells3 hf with ⟨hcs, _⟩ | ⟨x, l, c, zs, hcs, _, hl, hm, hz, _, hcell, hwz⟩
  · simp [Value.cells] at hcs
    obtain ⟨rfl, rfl, rfl⟩ := hcs
    exact ⟨[], rfl, Nat.le_refl _, by omega, ⟨rfl, by omega, fun hn => absurd hn (by omega)⟩, by simp⟩
  · simp [Value.cells] at hcs
    obtain ⟨rfl, rfl, rfl⟩ := hcs
    simp only [if_true] at hz
    unfold maxLen at hm
    have h63 : (2 : Nat) ^ 63 - 1 = 9223372036854775807 := by decide
    rw [h63] at hm
    refine ⟨zs.take len, by rw [List.length_take]; omega, hl, by omega, ⟨by rw [List.length_take]; omega, by omega, fun hn => ⟨x, rfl, fun j p hj => ⟨[.int .i64 p], rfl, rfl, fun i u hu => ?_⟩⟩⟩, fun n hn => hwz n (List.mem_of_mem_take hn)⟩
    obtain ⟨hj1, hj2⟩ := List.getElem?_eq_some_iff.1 hj
    rw [List.length_take] at hj1
    have hi : i = 0 := by
      have := (List.getElem?_eq_some_iff.1 hu).1
      simp at this
      exact this
    subst hi
    have hu2 : u = .int .i64 p := by simpa using hu.symm
    subst hu2
    have h3 := hcell j (by omega)
    rw [List.getElem_take] at hj2
    rw [List.getD_eq_getElem?_getD, List.getElem?_eq_getElem (by omega), Option.getD_some, hj2] at h3
    have hsz : (Kd.int .i64).sz = 1 := rfl
    rw [hsz, Nat.mul_one, Nat.add_zero]
    exact h3
theorem rows_of_trod {H : Type} {enc : TypeId × Value → H} {W : World} {base : Nat} {held : Bool} {a : Option Addr} {len cap : Nat} {d : DataW H} {ps : List MemPlace}
    (h : DataW.Trod enc Tryd.prog W base (fun _ => true) held 42 (.slice a len cap) d ps) : ∃ z : List (List Int), z.length = len ∧ len ≤ cap ∧ len ≤ 9223372036854775807 ∧ Kd.C (Kd.slice 3 (Kd.int .i64)) W a len z ∧ ∀ x ∈ z, ∀ n ∈ x, (Lit.int .i64 n).wf = true := by
  obtain ⟨fuel, hf⟩ := h
  have h63 : (2 : Nat) ^ 63 - 1 = 9223372036854775807 := by decide
  rcases open_int_rows Tryd.underlying42 Tryd.underlying22 Tryd.underlying3 cells22 cells3 hf with ⟨hcs, _⟩ | ⟨x, l, c, A, L, C, Z, hcs, _, hl, hm, _, hr⟩
  · simp [Value.cells] at hcs
    obtain ⟨rfl, rfl, rfl⟩ := hcs
    exact ⟨[], rfl, Nat.le_refl _, by omega, ⟨rfl, by omega, fun hn => absurd hn (by omega)⟩, by simp⟩
  · simp [Value.cells] at hcs
    obtain ⟨rfl, rfl, rfl⟩ := hcs
    unfold maxLen at hm hr
    rw [h63] at hm hr
    refine ⟨(List.range len).map fun r => (Z r).take (L r), by simp, hl, by omega, ⟨by simp, by omega, fun hn => ⟨x, rfl, fun j p hj => ?_⟩⟩, ?_⟩
    · obtain ⟨hj1, hj2⟩ := List.getElem?_eq_some_iff.1 hj
      rw [List.length_map, List.length_range] at hj1
      rw [List.getElem_map, List.getElem_range] at hj2
      obtain ⟨r1, r2, r3, r4, r5, r6, r7⟩ := hr j (by omega)
      have hpl : p.length = L j := by rw [← hj2, List.length_take]; omega
      refine ⟨[.slice (A j) p.length (C j)], rfl, ⟨A j, C j, rfl, by omega, ?_⟩, fun i u hu => ?_⟩
      · refine ⟨rfl, by omega, fun hn => ?_⟩
        cases hA : A j with
        | none => have := r6 hA; omega
        | some a' =>
          refine ⟨a', rfl, fun i q hq => ⟨[.int .i64 q], rfl, rfl, fun i' u hu => ?_⟩⟩
          obtain ⟨hq1, hq2⟩ := List.getElem?_eq_some_iff.1 hq
          have hi : i' = 0 := by
            have := (List.getElem?_eq_some_iff.1 hu).1
            simp at this
            exact this
          subst hi
          have hu2 : u = .int .i64 q := by simpa using hu.symm
          subst hu2
          have h3 := (r7 a' hA).2 i (by omega)
          subst hj2
          rw [List.getElem_take] at hq2
          rw [List.getD_eq_getElem?_getD, List.getElem?_eq_getElem (by omega), Option.getD_some, hq2] at h3
          have hsz : (Kd.int .i64).sz = 1 := rfl
          rw [hsz, Nat.mul_one, Nat.add_zero]
          exact h3
      · have hi : i = 0 := by
          have := (List.getElem?_eq_some_iff.1 hu).1
          simp at this
          exact this
        subst hi
        have hu2 : u = .slice (A j) p.length (C j) := by simpa using hu.symm
        subst hu2
        have hsz : (Kd.slice 3 (Kd.int .i64)).sz = 1 := rfl
        rw [hsz, Nat.mul_one, Nat.add_zero, hpl]
        exact r1
    · intro y hy n hn
      obtain ⟨r, hr1, rfl⟩ := List.mem_map.1 hy
      have := List.mem_range.1 hr1
      exact (hr r (by omega)).2.2.2.2.1 n (List.mem_of_mem_take hn)
end Go.Proofs.YtdlbmbijobcljaaDoor

namespace Go.Proofs.YtdlbmbijobcljaaDoor.featureCenters
open Go.ChangeShapes Go.WideShapes Go.ChangeAt Go.RowKit
open Go.ChangeMaps (open_string shut_string)
set_option linter.unusedVariables false
theorem own : ownKnob Tryd.prog.godebug = none := by kernel_rfl
theorem laidOut : laidOutB Tryd.prog = true := by kernel_rfl
set_option maxRecDepth 100000 in
theorem lifted (os : Os) (started : os.Started) (H : Type) (enc : TypeId × Value → H) :
    ReturnsInHanded {} Tryd.checked os 14 .any (fun w args => (Rows.featureCentersSpec.pre enc Tryd.prog Tryd.f14 Rows.featureCentersRow.domain false w args ∧ laidMetH Tryd.prog laidC w) ∧ sizedMet enc Tryd.prog Tryd.f14 (OpenSpec.ofChange Rows.featureCentersSpec) false w args) (Rows.featureCentersSpec.post enc Tryd.prog Tryd.f14 false true false false) := by
  refine returnsInHanded_of_change_and (C := Tryd.checked) (X := fun w _ => laidMetH Tryd.prog laidC w) (fun _ _ _ hh h => h.of_heap hh) own started (by kernel_rfl) Tryd.func14
    (ChangeSpec.witness_shaped (enc := enc) (C := Tryd.checked) (os := os) (X := fun w _ => laidMetH Tryd.prog laidC w) false (World.doorLaid Tryd.prog 4000 os) #[.slice none 0 0] 8 rfl (World.shaped_of_RefB (by kernel_rfl) (by kernel_rfl)) (by kernel_rfl) (by kernel_rfl) (by kernel_rfl) (door_met os _)) ?_
  intro W base args ds gs before hval0 hW hcnd hsz0 hL _
  have ht := tab_of_laid hL
  have hval : ∀ (j : Nat) t v, Tryd.f14.params[j]? = some t → args[j]? = some v → Value.okWide Tryd.prog W .any base t v := hval0
  have hW' := hW
  obtain ⟨p, q, hA0, hV, rfl, hfz, hnd⟩ := hW
  have hA : DataW.TrodAll enc Tryd.prog W 0 (fun _ => true) true Tryd.f14.params.toList args.toList ds p := hA0
  rw [Tryd.params14] at hA hval
  obtain ⟨v0, vs0, d0, ds0, p0, q0, hargs, rfl, rfl, h0, r0⟩ := trodAll_cons hA
  obtain ⟨rfl, rfl, rfl⟩ := trodAll_nil r0
  obtain rfl : args = #[v0] := by cases args; simp_all
  obtain ⟨rfl, rfl⟩ := trodVars_none hV
  obtain ⟨a0, len0, cap0, rfl⟩ := okWide_slice Tryd.underlying42 (hval 0 42 v0 rfl rfl)
  have k0 := h0
  have lt0 : ∀ x ∈ p0, x.block < W.heap.size := by obtain ⟨m, hm⟩ := k0; exact DataW.trod_lt m _ _ _ hm
  obtain ⟨z0, rfl, hc0, hm0, hr0, hw0⟩ := rows_of_trod h0
  clear hA0 hval0 hsz0
  obtain ⟨k, hk⟩ := Pure.FeatureCenters z0 hm0
  refine (X.earshotlaw03_FeatureCenters.calls k _ _ z0 true W ht hr0 hc0 hk).mono fun e W' ⟨he, bel⟩ => ?_
  subst he
  exact ⟨_, rfl, _, _, _, [], _, [], hW', trodAll_mk1 (shut_bool Tryd.underlying4 _), (trodAll_cons_mk (Below.trod laidOut (by kernel_rfl) (of_decide_eq_true (by kernel_rfl)) k0 bel lt0) trodAll_mk0), rfl, bel.frame _, fun h => by cases h⟩
theorem closed : joinedFacts Tryd.prog 14 Tryd.f14 Rows.featureCentersSpec Rows.featureCentersRow = true :=
  joined_of rfl rfl rfl (by kernel_rfl) (by kernel_rfl) (by kernel_rfl) (by kernel_rfl) (by kernel_rfl) (by kernel_rfl) (by kernel_rfl) (by kernel_rfl) (by kernel_rfl) (by kernel_rfl) (by kernel_rfl) (by kernel_rfl) (by kernel_rfl) (by kernel_rfl) (by kernel_rfl) (by kernel_rfl) (by kernel_rfl) (by kernel_rfl) (by kernel_rfl) (by kernel_rfl) (by kernel_rfl) (by kernel_rfl) (by kernel_rfl)
theorem over : Rows.featureCentersRow.holds Tryd.pinned (OpenSpec.ofChange Rows.featureCentersSpec) :=
  OpenClaim.holds_of_wide 14 Tryd.f14 rfl rfl rfl rfl rfl rfl rfl ⟨rfl, rfl, rfl, rfl, rfl⟩ rfl rfl rfl rfl rfl (by kernel_rfl) Tryd.func14 closed
    (of_decide_eq_true (by kernel_rfl)) (by unfold Func.isWrapper; first | (rw [if_pos (by decide +kernel)]; kernel_rfl) | (rw [if_neg (by decide +kernel)]; exact ⟨rfl, rfl⟩))
    (fun os started H enc _ => lifted os started H enc)
theorem proved : Rows.FeatureCentersSaid := over
end Go.Proofs.YtdlbmbijobcljaaDoor.featureCenters
namespace Go.Proofs.YtdlbmbijobcljaaDoor
/-- The row, under a short name, for the claim. -/
theorem featureCenters_holds : Rows.FeatureCentersSaid := featureCenters.proved
/-- THE TIED CARD. -/
theorem featureCenters_card : Rows.FeatureCentersCardSaid :=
  Claim7.holds_tied_plain_at .later [] [.data] true (true, "113a42d89db8992b3819bea1327673c10f2f9c06b5576fb37f9626d51ac793bb") false
    featureCenters_holds (fun _ h => by cases h) (by kernel_rfl) (fun _ h => by cases h) featureCenters_row_tie rfl ⟨rfl, rfl⟩ jMain rfl
    (fun f fn hf hfn => by
      obtain rfl : f = 14 := Option.some.inj ((show Tryd.prog.funcNamed "earshot/earshotlaw03.FeatureCenters" = some 14 by kernel_rfl).symm.trans hf) |>.symm
      obtain rfl : fn = Tryd.f14 := (Option.some.inj (Tryd.func14.symm.trans hfn)).symm
      exact ⟨by kernel_rfl, fun j t ht => by
        rw [Tryd.params14] at ht
        have hm : t ∈ [42] := by simpa using Array.mem_of_getElem? ht
        have hall : ([42].all fun u => !Tryd.prog.wantsStandIn u) = true := by kernel_rfl
        exact (show Tryd.prog.wantsStandIn t = false by simpa using List.all_eq_true.1 hall t hm)⟩)
    (by kernel_rfl)
end Go.Proofs.YtdlbmbijobcljaaDoor
