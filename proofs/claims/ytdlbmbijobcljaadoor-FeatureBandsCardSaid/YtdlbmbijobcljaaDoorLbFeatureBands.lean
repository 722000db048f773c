/- FeatureBands: for every input whatever the law returns true, and each argument reads behind the call as it read before. Conditions: those of the row: the listed variable earshot/api.Cosines reads as laid, which the card ties to the program's text. By a program of this session's own (wip/print/gen_row.py), after the kit's print. -/
import Derived.Test.YtdlbmbijobcljaaDoorMA
import Derived.Test.YtdlbmbijobcljaaDoorLaFeatureBands
import Derived.Test.YtdlbmbijobcljaaDoorMB
import Derived.Test.YtdlbmbijobcljaaDoorMK
import Derived.Test.YtdlbmbijobcljaaDoorRows
import Derived.Test.YtdlbmbijobcljaaDoorCards
import Derived.Test.YtdlbmbijobcljaaDoorMJ
import Derived.Test.YtdlbmbijobcljaaDoorHJoinedE
import Derived.Test.YtdlbmbijobcljaaDoorTie
import Derived.LaidMore
import Derived.Stop.Joined
import Derived.SevenTiedAt
import Derived.WalkKit
import Derived.ProofKit
import Derived.OpenShut
import Derived.ShutString
import Derived.ChangeOld
import Derived.Below
import Derived.SizedLaws
import Derived.Test.YtdlbmbijobcljaaDoorVA
namespace Go.Proofs.YtdlbmbijobcljaaDoor.X
open Go.RowKit Go.Proofs.YtdlbmbijobcljaaDoorW.PrintWords Go.Proofs.YtdlbmbijobcljaaDoorW.PrintLast Go.Proofs.YtdlbmbijobcljaaDoorW.PrintMore
attribute [local go_sem] max2_int min2_int max_two min_two max_three min_three max_four min_four   -- for this text's walks alone
set_option linter.unusedVariables false
set_option linter.unusedSimpArgs false
/-! ### earshotref03_Inverse: function 27 -/
mutual
def earshotref03_Inverse.l0 : Nat → List Int → Int → List Int → Int → Option (List Int)
 | 0, _, _, _, _ => none
 | k + 1, x0, x3, x4, x5 => if x5 < x3 then (if 0 < (x0.length : Int) then (earshotref03_Inverse.l1 k x0 x3 x4 x5 (wrap64 (16384 * (rd x0 0))) 1) else (none)) else (some x4)
def earshotref03_Inverse.l1 : Nat → List Int → Int → List Int → Int → Int → Int → Option (List Int)
 | 0, _, _, _, _, _, _ => none
 | k + 1, x0, x3, x4, x5, x6, x7 => if x7 < x3 then (if 0 ≤ x7 then (if x7 < (x0.length : Int) then (if x3 = 0 then (none) else ((earshotref03_C.f (wrap64 ((wrap64 ((wrap64 ((wrap64 (2 * x5)) + 1)) * x7)) * (wrap64 ((64 : Int) / x3))))).bind fun t106 => (earshotref03_Inverse.l1 k x0 x3 x4 x5 (wrap64 (x6 + (wrap64 ((wrap64 (2 * (rd x0 x7))) * t106)))) (wrap64 (x7 + 1))))) else (none)) else (none)) else ((earshotref02_Round.f k x6 (wrap64 (x3 * 268435456))).bind fun t107 => (if 0 ≤ x5 then (if x5 < (x4.length : Int) then (earshotref03_Inverse.l0 k x0 x3 (x4.set (x5 : Int).toNat t107) (wrap64 (x5 + 1))) else (none)) else (none)))
end
def earshotref03_Inverse.f (k : Nat) (l0 : List Int) : Option (List Int) := if 0 ≤ (l0.length : Int) then (if ((l0.length : Int) : Int).toNat ≤ 35184372088832 then (earshotref03_Inverse.l0 k l0 (l0.length : Int) (List.replicate ((l0.length : Int) : Int).toNat 0) 0) else (none)) else (none)
theorem earshotref03_Inverse.mono_l : ∀ k, (∀ y0 y1 y2 y3, LeO (earshotref03_Inverse.l0 k y0 y1 y2 y3) (earshotref03_Inverse.l0 (k + 1) y0 y1 y2 y3)) ∧ (∀ y0 y1 y2 y3 y4 y5, LeO (earshotref03_Inverse.l1 k y0 y1 y2 y3 y4 y5) (earshotref03_Inverse.l1 (k + 1) y0 y1 y2 y3 y4 y5))
 | 0 => ⟨fun _ _ _ _ r h => by simp [earshotref03_Inverse.l0] at h, fun _ _ _ _ _ _ r h => by simp [earshotref03_Inverse.l1] at h⟩
 | k + 1 => by
  obtain ⟨ih0, ih1⟩ := earshotref03_Inverse.mono_l k
  refine ⟨?_, ?_⟩
  ·intro y0 y1 y2 y3
   unfold earshotref03_Inverse.l0
   repeat' first
   | (with_reducible exact ih0 _ _ _ _)
   | (with_reducible exact ih1 _ _ _ _ _ _)
   | (with_reducible exact earshotref02_Round.mono _ _ _)
   | (with_reducible exact LeO.refl _)
   | (with_reducible exact LeO.none _)
   | (with_reducible refine LeO.ite ?_ ?_)
   | (with_reducible refine LeO.bind ?_ (fun _ => ?_))
   | exact ih0 _ _ _ _
   | exact ih1 _ _ _ _ _ _
   | exact earshotref02_Round.mono _ _ _
   | exact LeO.none _
   | refine LeO.ite ?_ ?_
   | refine LeO.bind ?_ (fun _ => ?_)
  ·intro y0 y1 y2 y3 y4 y5
   unfold earshotref03_Inverse.l1
   repeat' first
   | (with_reducible exact ih0 _ _ _ _)
   | (with_reducible exact ih1 _ _ _ _ _ _)
   | (with_reducible exact earshotref02_Round.mono _ _ _)
   | (with_reducible exact LeO.refl _)
   | (with_reducible exact LeO.none _)
   | (with_reducible refine LeO.ite ?_ ?_)
   | (with_reducible refine LeO.bind ?_ (fun _ => ?_))
   | exact ih0 _ _ _ _
   | exact ih1 _ _ _ _ _ _
   | exact earshotref02_Round.mono _ _ _
   | exact LeO.none _
   | refine LeO.ite ?_ ?_
   | refine LeO.bind ?_ (fun _ => ?_)
theorem earshotref03_Inverse.mono : ∀ a0 k, LeO (earshotref03_Inverse.f k a0) (earshotref03_Inverse.f (k + 1) a0) := by
 intro a0 k
 obtain ⟨ih0, ih1⟩ := earshotref03_Inverse.mono_l k
 unfold earshotref03_Inverse.f
 repeat' first
   | (with_reducible exact ih0 _ _ _ _)
   | (with_reducible exact ih1 _ _ _ _ _ _)
   | (with_reducible exact earshotref02_Round.mono _ _ _)
   | (with_reducible exact LeO.refl _)
   | (with_reducible exact LeO.none _)
   | (with_reducible refine LeO.ite ?_ ?_)
   | (with_reducible refine LeO.bind ?_ (fun _ => ?_))
   | exact ih0 _ _ _ _
   | exact ih1 _ _ _ _ _ _
   | exact earshotref02_Round.mono _ _ _
   | exact LeO.none _
   | refine LeO.ite ?_ ?_
   | refine LeO.bind ?_ (fun _ => ?_)
set_option maxHeartbeats 8000000 in
set_option maxRecDepth 100000 in
theorem earshotref03_Inverse.calls (k : Nat) (A0 : Option Addr) (c0 : Nat) (l0 : List Int) (r : List Int) (w : World) (ht : Kd.C (Kd.int .i64) w (some ⟨0, 0, none⟩) 65 tabL) (hr0 : Kd.C (Kd.int .i64) w A0 l0.length l0) (hc0 : l0.length ≤ c0) (h : earshotref03_Inverse.f k l0 = some r) :
  Calls Tryd.prog 27 #[.slice A0 l0.length c0] w fun e w' => ∃ v0_ : Value, e = .returned (v0_) ∧ Kd.R (Kd.int .i64) 3 w' w.heap.size (fun _ => True) v0_ r ∧ Below w.heap.size w w' := by
 have HRT := Aside0.mk ht
 clear ht
 have HR0 := Aside0.mk hr0
 have HC0 := Aside0.mk hc0
 clear hr0 hc0
 have HB := Aside0.mk (Below.refl w.heap.size w)
 have H : (if 0 ≤ (l0.length : Int) then (if ((l0.length : Int) : Int).toNat ≤ 35184372088832 then (earshotref03_Inverse.l0 k l0 (l0.length : Int) (List.replicate ((l0.length : Int) : Int).toNat 0) 0) else (none)) else (none)) = some r := h
 clear h
 by_cases c2 : 0 ≤ (l0.length : Int)
 ·rw [if_pos c2] at H
  have c2b0 := eq_true c2
  have c2b1 := decide_eq_true c2
  clear c2
  by_cases c3 : ((l0.length : Int) : Int).toNat ≤ 35184372088832
  ·rw [if_pos c3] at H
   have c3b0 := eq_true c3
   have c3b1 := decide_eq_true c3
   clear c3
   obtain ⟨y101, hy101⟩ : ∃ y_ : List Int, y_ = (List.replicate ((l0.length : Int) : Int).toNat 0) := ⟨_, rfl⟩
   replace H : (earshotref03_Inverse.l0 k l0 (l0.length : Int) y101 0) = some r := by first | (rw [hy101]; with_reducible exact H) | (have H2_ := (Option.bind_some _ _).symm.trans H; rw [hy101]; with_reducible exact H2_) | (have H2_ := (Option.bind_some _ _).symm.trans H; with_reducible exact H2_) | with_reducible exact H | (rw [hy101]; exact H) | exact H
   have Ny101 := Aside0.mk hy101
   clear hy101
   have H' := Aside0.mk H
   clear H
   go_enter Tryd.func27, Tryd.ntmps27
   go_wp2_with (first | ((with_reducible refine gate_dst (N := 11) rfl ?_); refine Kd.R_make (Kd.int .i64) _ 3 rfl (N := 11) rfl 22 _ _ rfl (l0.length : Int) rfl rfl Tryd.underlying22 (.int .i64 0) 8 info3 rfl (by decide) (by omega) 0 (ok := fun _ => True) (okp := fun _ => True) rfl (fun _ hk => hk) trivial (of_decide_eq_true tA) (Nat.le_trans (Nat.mul_le_mul_right _ (of_decide_eq_true tA : (l0.length : Int).toNat ≤ 35184372088832)) (by omega)) (Below.refl _ _) (Nat.le_refl _) ?_; intro v102 w4 ho5 hb hg_ hnew_; clear hg_ hnew_; (first | rw [← Ny101.out] at ho5 | (simp only [Int.reduceToNat] at ho5; rw [← Ny101.out] at ho5)); have n0_ := Aside0.mk (Kd.R_lower ho5 (below_size tB)); have n1_ := Aside0.mk (below_step tB hb); clear HB; have HO103 := n0_; have HB := n1_; clear n0_ n1_; clear hb ho5))
   repeat (go_quiet (first | ((with_reducible refine gate_dst (N := 11) rfl ?_); refine Kd.R_make (Kd.int .i64) _ 3 rfl (N := 11) rfl 22 _ _ rfl (l0.length : Int) rfl rfl Tryd.underlying22 (.int .i64 0) 8 info3 rfl (by decide) (by omega) 0 (ok := fun _ => True) (okp := fun _ => True) rfl (fun _ hk => hk) trivial (of_decide_eq_true tA) (Nat.le_trans (Nat.mul_le_mul_right _ (of_decide_eq_true tA : (l0.length : Int).toNat ≤ 35184372088832)) (by omega)) (Below.refl _ _) (Nat.le_refl _) ?_; intro v102 w4 ho5 hb hg_ hnew_; clear hg_ hnew_; (first | rw [← Ny101.out] at ho5 | (simp only [Int.reduceToNat] at ho5; rw [← Ny101.out] at ho5)); have n0_ := Aside0.mk (Kd.R_lower ho5 (below_size tB)); have n1_ := Aside0.mk (below_step tB hb); clear HB; have HO103 := n0_; have HB := n1_; clear n0_ n1_; clear hb ho5)); try go_wp2_with (first | ((with_reducible refine gate_dst (N := 11) rfl ?_); refine Kd.R_make (Kd.int .i64) _ 3 rfl (N := 11) rfl 22 _ _ rfl (l0.length : Int) rfl rfl Tryd.underlying22 (.int .i64 0) 8 info3 rfl (by decide) (by omega) 0 (ok := fun _ => True) (okp := fun _ => True) rfl (fun _ hk => hk) trivial (of_decide_eq_true tA) (Nat.le_trans (Nat.mul_le_mul_right _ (of_decide_eq_true tA : (l0.length : Int).toNat ≤ 35184372088832)) (by omega)) (Below.refl _ _) (Nat.le_refl _) ?_; intro v102 w4 ho5 hb hg_ hnew_; clear hg_ hnew_; (first | rw [← Ny101.out] at ho5 | (simp only [Int.reduceToNat] at ho5; rw [← Ny101.out] at ho5)); have n0_ := Aside0.mk (Kd.R_lower ho5 (below_size tB)); have n1_ := Aside0.mk (below_step tB hb); clear HB; have HO103 := n0_; have HB := n1_; clear n0_ n1_; clear hb ho5)))
   go_loopg [5] k (fun kq v5 w' => ∃ (x4_1 : List Int) (x5_1 : Int), v5 = .int .i64 x5_1 ∧ Aside0 (earshotref03_Inverse.l0 kq l0 (l0.length : Int) x4_1 x5_1 = some r) ∧ Aside0 (kq ≤ k) ∧ Aside0 (Kd.R (Kd.int .i64) 3 w' w.heap.size (fun _ => True) v102 x4_1) ∧ Aside0 (Below w.heap.size w w'))
   case atStart => exact ⟨(y101), (0), (by first | rfl | (simp; done) | (simp only [i64_w]; done) | (simp [*]; done)), H', ⟨Nat.le_refl _⟩, ⟨tR HO103.out⟩, ⟨tB⟩⟩
   case round =>
    clear H'
    try clear c2
    try clear c2b0
    try clear c2b1
    try clear p2
    try clear c3
    try clear c3b0
    try clear c3b1
    obtain ⟨x4_1, x5_1, rfl, HA, HK1, HO_4, HB⟩ := hrel
    cases gk with
    | zero => exact absurd HA.out (by simp [earshotref03_Inverse.l0])
    | succ k1 =>
     have H := HA.out
     clear HA
     simp only [earshotref03_Inverse.l0] at H
     by_cases c6 : x5_1 < (l0.length : Int)
     ·rw [if_pos c6] at H
      have c6b0 := decide_eq_true c6
      clear c6
      by_cases c7 : 0 < (l0.length : Int)
      ·rw [if_pos c7] at H
       have c7b0 := decide_eq_true c7
       have c7b1 : decide (0 < l0.length) = true := decide_eq_true (by omega)
       clear c7
       have H' := Aside0.mk H
       clear H
       have p104 : 0 ≤ (0 : Int) := (by omega)
       have q104 : 0 < (l0.length : Int) := of_decide_eq_true tA
       obtain ⟨ad104, e104, hx104_0⟩ := Kd.at_int HR0.out 0 p104 q104
       cases e104
       have qi104 : (0 < l0.length) = True := eq_true (by omega)
       (try rw [show ((0 : Int)).toNat = 0 from rfl] at hx104_0)
       (try rw [Addr.add_zero'] at hx104_0)
       replace hx104_0 := (HB.out.cell (World.block_lt_of_cell? w _ hx104_0)).trans hx104_0
       replace p104 := eq_true p104
       replace q104 := eq_true q104
       go_wp2
       repeat (go_quiet (fail); try go_wp2)
       go_loopg [6, 7] k1 (fun kq v6 v7 w' => ∃ (x6_2 : Int) (x7_2 : Int), v6 = .int .i64 x6_2 ∧ v7 = .int .i64 x7_2 ∧ Aside0 (earshotref03_Inverse.l1 kq l0 (l0.length : Int) x4_1 x5_1 x6_2 x7_2 = some r) ∧ Aside0 (kq ≤ k1) ∧ Aside0 (Kd.R (Kd.int .i64) 3 w' w.heap.size (fun _ => True) v102 x4_1) ∧ Aside0 (Below w.heap.size w w'))
       case atStart => exact ⟨(wrap64 (16384 * (rd l0 0))), (1), (by first | rfl | (simp; done) | (simp only [i64_w]; done) | (simp [*]; done)), (by first | rfl | (simp; done) | (simp only [i64_w]; done) | (simp [*]; done)), H', ⟨Nat.le_refl _⟩, ⟨tR HO_4.out⟩, ⟨tB⟩⟩
       case round =>
        clear H'
        try clear p1
        try clear q1
        try clear hx1
        try clear qi1
        try clear c2
        try clear c2b0
        try clear c2b1
        try clear p2
        try clear c3
        try clear c3b0
        try clear c3b1
        try clear c6
        try clear c6b0
        try clear p6
        try clear c7
        try clear c7b0
        try clear c7b1
        try clear hx104_0
        try clear p104
        try clear p2
        try clear q104
        obtain ⟨x6_2, x7_2, rfl, rfl, HA, HK2, HO_4, HB⟩ := hrel
        cases gk with
        | zero => exact absurd HA.out (by simp [earshotref03_Inverse.l1])
        | succ k2 =>
         have H := HA.out
         clear HA
         simp only [earshotref03_Inverse.l1] at H
         by_cases c8 : x7_2 < (l0.length : Int)
         ·rw [if_pos c8] at H
          have c8b0 := decide_eq_true c8
          clear c8
          by_cases c9 : 0 ≤ x7_2
          ·rw [if_pos c9] at H
           have c9b0 := decide_eq_true c9
           clear c9
           by_cases c10 : x7_2 < (l0.length : Int)
           ·rw [if_pos c10] at H
            have c10b0 := decide_eq_true c10
            clear c10
            by_cases c11 : (l0.length : Int) = 0
            ·rw [if_pos c11] at H
             exact absurd H (by simp)
            ·rw [if_neg c11] at H
             have c11b0 : ((l0.length : Int) == 0) = false := beq_eq_false_iff_ne.mpr c11
             have c11b1 : ((l0.length : Int) != 0) = true := bne_iff_ne.mpr c11
             have c11b2 : ¬ (l0 = []) := fun h_ => c11 (by rw [h_]; rfl)
             replace H := Option.bind_eq_some_iff.mp H
             obtain ⟨t106, A120, H⟩ := H
             try dsimp only at H
             have A12 := Aside0.mk A120
             clear A120
             have A12z := Aside0.mk (by have z := A12.out; rw [wrap_quo64 _ c11] at z; exact z)
             clear A12
             have A12 := A12z
             clear A12z
             have H' := Aside0.mk H
             clear H
             have p105 : 0 ≤ (x7_2 : Int) := of_decide_eq_true tA
             have q105 : x7_2 < (l0.length : Int) := of_decide_eq_true tA
             obtain ⟨ad105, e105, hx105_0⟩ := Kd.at_int HR0.out x7_2 p105 q105
             obtain rfl : ad104 = ad105 := (by injection e105)
             replace hx105_0 := (HB.out.cell (World.block_lt_of_cell? w _ hx105_0)).trans hx105_0
             replace p105 := eq_true p105
             replace q105 := eq_true q105
             go_wp2_with (first | (go_at_call 48; (with_reducible refine (earshotref03_C.calls (wrap64 ((wrap64 ((wrap64 ((wrap64 (2 * x5_1)) + 1)) * x7_2)) * ((64 : Int) / (l0.length : Int)))) t106 _ ?side1 A12.out).mono ?_); (case side1 => exact tC (Kd.C_below HRT.out HB.out)); rintro e w' ⟨rfl, ⟨nd, rfl⟩⟩; (try first | exact ⟨rfl, _, World.drewN_drewN _ _ _⟩ | exact ⟨rfl, _, Eq.trans (World.drewN_drewN _ _ _) (congrArg (World.drewN _) (Nat.add_assoc _ _ _))⟩)))
             repeat (go_quiet (first | (go_at_call 48; (with_reducible refine (earshotref03_C.calls (wrap64 ((wrap64 ((wrap64 ((wrap64 (2 * x5_1)) + 1)) * x7_2)) * ((64 : Int) / (l0.length : Int)))) t106 _ ?side1 A12.out).mono ?_); (case side1 => exact tC (Kd.C_below HRT.out HB.out)); rintro e w' ⟨rfl, ⟨nd, rfl⟩⟩; (try first | exact ⟨rfl, _, World.drewN_drewN _ _ _⟩ | exact ⟨rfl, _, Eq.trans (World.drewN_drewN _ _ _) (congrArg (World.drewN _) (Nat.add_assoc _ _ _))⟩))); try go_wp2_with (first | (go_at_call 48; (with_reducible refine (earshotref03_C.calls (wrap64 ((wrap64 ((wrap64 ((wrap64 (2 * x5_1)) + 1)) * x7_2)) * ((64 : Int) / (l0.length : Int)))) t106 _ ?side1 A12.out).mono ?_); (case side1 => exact tC (Kd.C_below HRT.out HB.out)); rintro e w' ⟨rfl, ⟨nd, rfl⟩⟩; (try first | exact ⟨rfl, _, World.drewN_drewN _ _ _⟩ | exact ⟨rfl, _, Eq.trans (World.drewN_drewN _ _ _) (congrArg (World.drewN _) (Nat.add_assoc _ _ _))⟩))))
             go_roundg k2
             case measure => have := HK1.out; have := HK2.out; omega
             case rel => exact ⟨(wrap64 (x6_2 + (wrap64 ((wrap64 (2 * (rd l0 x7_2))) * t106)))), (wrap64 (x7_2 + 1)), (by first | rfl | (simp; done) | (simp only [i64_w]; done) | (simp [*]; done)), (by first | rfl | (simp; done) | (simp only [i64_w]; done) | (simp [*]; done)), H', ⟨by have := HK1.out; have := HK2.out; omega⟩, ⟨tR HO_4.out⟩, ⟨tB⟩⟩
           ·rw [if_neg c10] at H
            exact absurd H (by simp)
          ·rw [if_neg c9] at H
           exact absurd H (by simp)
         ·rw [if_neg c8] at H
          have c8b0 := decide_eq_false c8
          clear c8
          replace H := Option.bind_eq_some_iff.mp H
          obtain ⟨t107, A130, H⟩ := H
          try dsimp only at H
          have A13 := Aside0.mk A130
          clear A130
          by_cases c14 : 0 ≤ x5_1
          ·rw [if_pos c14] at H
           have c14b0 := decide_eq_true c14
           clear c14
           by_cases c15 : x5_1 < (x4_1.length : Int)
           ·rw [if_pos c15] at H
            have c15b0 := decide_eq_true c15
            clear c15
            obtain ⟨y108, hy108⟩ : ∃ y_ : List Int, y_ = (x4_1.set (x5_1 : Int).toNat t107) := ⟨_, rfl⟩
            replace H : (earshotref03_Inverse.l0 k2 l0 (l0.length : Int) y108 (wrap64 (x5_1 + 1))) = some r := by first | (rw [hy108]; with_reducible exact H) | (have H2_ := (Option.bind_some _ _).symm.trans H; rw [hy108]; with_reducible exact H2_) | (have H2_ := (Option.bind_some _ _).symm.trans H; with_reducible exact H2_) | with_reducible exact H | (rw [hy108]; exact H) | exact H
            have Ny108 := Aside0.mk hy108
            clear hy108
            have H' := Aside0.mk H
            clear H
            go_wp2_with (first | (go_at_call 83; (with_reducible refine (earshotref02_Round.calls k2 x6_2 (wrap64 ((l0.length : Int) * 268435456)) t107 _ A13.out).mono ?_); rintro e w' ⟨rfl, ⟨nd, rfl⟩⟩; (try first | exact ⟨rfl, _, World.drewN_drewN _ _ _⟩ | exact ⟨rfl, _, Eq.trans (World.drewN_drewN _ _ _) (congrArg (World.drewN _) (Nat.add_assoc _ _ _))⟩); have p16 : 0 ≤ (x5_1 : Int) := of_decide_eq_true tA; have q16 : (x5_1 : Int) < ((x4_1.length : Int) : Int) := of_decide_eq_true tA; obtain ⟨go16, co16, eo16, gb16, gl16, cl16, HG16⟩ := Kd.R_form HO_4.out (by omega); (first | cases eo16 | (injection eo16 with ea_ en_ ec_; (first | subst ea_ | (injection ea_ with ea_; subst ea_)); subst ec_; clear en_)); have GB16 := Aside0.mk gb16; have GG16 := Aside0.mk HG16; clear gb16 gl16 HG16; obtain ⟨hx16_0, hf16_0⟩ := Kd.R_celln 0 HO_4.out (x5_1 : Int) p16 q16; replace p16 := eq_true p16; replace q16 := eq_true q16; obtain ⟨hy17_, hz17_⟩ := Kd.R_celln 0 HO_4.out (x5_1 : Int) (of_decide_eq_true tA) (of_decide_eq_true tA); have HP17 := Kd.R_putg HO_4.out (x5_1 : Int) t107) | ((with_reducible refine gate_store (t := 3) (p := 49) rfl ?_); (try (rw [drewN_self wr]; generalize hq_ : World.drewN wr _ = wr; (try have hx16_0 := cell_at hq_ hx16_0); (try have hf16_0 := frozen_at hq_ hf16_0); have n0_ := Aside0.mk (Kd.R_at hq_ HO_4.out); have n1_ := Aside0.mk (below_at hq_ HB.out); clear hq_ HO_4 HB; have HO_4 := n0_; have HB := n1_; clear n0_ n1_; (try (obtain ⟨hy17_, hz17_⟩ := Kd.R_celln 0 HO_4.out (x5_1 : Int) (of_decide_eq_true tA) (of_decide_eq_true tA))); (try (have HP17 := Kd.R_putg HO_4.out (x5_1 : Int) t107)))); refine store_event (t := 3) (p := 49) (v := ?vo_w18) (w1 := (wr.setCell ⟨go16, (x5_1 : Int).toNat, none⟩ (.int .i64 t107))) ?hg ?ho ?hn ?hr ?_; (case ho => rfl); (case hg => rfl); (case hn => rfl); (case hr => first | (go_simp; done) | (go_simp; rfl)); intro w18 hw; have hg : wr.grownBy w18 (some go16) := (by rw [hw]; exact HP17.2); have hp_ : Kd.R (Kd.int .i64) 3 w18 w.heap.size (fun _ => True) (.slice (some ⟨go16, 0, none⟩) x4_1.length co16) y108 := (by rw [hw, Ny108.out]; exact HP17.1); clear HP17; have n0_ := Aside0.mk (hp_); have n1_ := Aside0.mk ((by rw [hw]; exact below_set (HB.out) GB16.out : Below w.heap.size w w18)); clear HO_4; clear HB; have HO_4 := n0_; have HB := n1_; clear n0_ n1_; clear hg hw hp_))
            repeat (go_quiet (first | (go_at_call 83; (with_reducible refine (earshotref02_Round.calls k2 x6_2 (wrap64 ((l0.length : Int) * 268435456)) t107 _ A13.out).mono ?_); rintro e w' ⟨rfl, ⟨nd, rfl⟩⟩; (try first | exact ⟨rfl, _, World.drewN_drewN _ _ _⟩ | exact ⟨rfl, _, Eq.trans (World.drewN_drewN _ _ _) (congrArg (World.drewN _) (Nat.add_assoc _ _ _))⟩); have p16 : 0 ≤ (x5_1 : Int) := of_decide_eq_true tA; have q16 : (x5_1 : Int) < ((x4_1.length : Int) : Int) := of_decide_eq_true tA; obtain ⟨go16, co16, eo16, gb16, gl16, cl16, HG16⟩ := Kd.R_form HO_4.out (by omega); (first | cases eo16 | (injection eo16 with ea_ en_ ec_; (first | subst ea_ | (injection ea_ with ea_; subst ea_)); subst ec_; clear en_)); have GB16 := Aside0.mk gb16; have GG16 := Aside0.mk HG16; clear gb16 gl16 HG16; obtain ⟨hx16_0, hf16_0⟩ := Kd.R_celln 0 HO_4.out (x5_1 : Int) p16 q16; replace p16 := eq_true p16; replace q16 := eq_true q16; obtain ⟨hy17_, hz17_⟩ := Kd.R_celln 0 HO_4.out (x5_1 : Int) (of_decide_eq_true tA) (of_decide_eq_true tA); have HP17 := Kd.R_putg HO_4.out (x5_1 : Int) t107) | ((with_reducible refine gate_store (t := 3) (p := 49) rfl ?_); (try (rw [drewN_self wr]; generalize hq_ : World.drewN wr _ = wr; (try have hx16_0 := cell_at hq_ hx16_0); (try have hf16_0 := frozen_at hq_ hf16_0); have n0_ := Aside0.mk (Kd.R_at hq_ HO_4.out); have n1_ := Aside0.mk (below_at hq_ HB.out); clear hq_ HO_4 HB; have HO_4 := n0_; have HB := n1_; clear n0_ n1_; (try (obtain ⟨hy17_, hz17_⟩ := Kd.R_celln 0 HO_4.out (x5_1 : Int) (of_decide_eq_true tA) (of_decide_eq_true tA))); (try (have HP17 := Kd.R_putg HO_4.out (x5_1 : Int) t107)))); refine store_event (t := 3) (p := 49) (v := ?vo_w18) (w1 := (wr.setCell ⟨go16, (x5_1 : Int).toNat, none⟩ (.int .i64 t107))) ?hg ?ho ?hn ?hr ?_; (case ho => rfl); (case hg => rfl); (case hn => rfl); (case hr => first | (go_simp; done) | (go_simp; rfl)); intro w18 hw; have hg : wr.grownBy w18 (some go16) := (by rw [hw]; exact HP17.2); have hp_ : Kd.R (Kd.int .i64) 3 w18 w.heap.size (fun _ => True) (.slice (some ⟨go16, 0, none⟩) x4_1.length co16) y108 := (by rw [hw, Ny108.out]; exact HP17.1); clear HP17; have n0_ := Aside0.mk (hp_); have n1_ := Aside0.mk ((by rw [hw]; exact below_set (HB.out) GB16.out : Below w.heap.size w w18)); clear HO_4; clear HB; have HO_4 := n0_; have HB := n1_; clear n0_ n1_; clear hg hw hp_)); try go_wp2_with (first | (go_at_call 83; (with_reducible refine (earshotref02_Round.calls k2 x6_2 (wrap64 ((l0.length : Int) * 268435456)) t107 _ A13.out).mono ?_); rintro e w' ⟨rfl, ⟨nd, rfl⟩⟩; (try first | exact ⟨rfl, _, World.drewN_drewN _ _ _⟩ | exact ⟨rfl, _, Eq.trans (World.drewN_drewN _ _ _) (congrArg (World.drewN _) (Nat.add_assoc _ _ _))⟩); have p16 : 0 ≤ (x5_1 : Int) := of_decide_eq_true tA; have q16 : (x5_1 : Int) < ((x4_1.length : Int) : Int) := of_decide_eq_true tA; obtain ⟨go16, co16, eo16, gb16, gl16, cl16, HG16⟩ := Kd.R_form HO_4.out (by omega); (first | cases eo16 | (injection eo16 with ea_ en_ ec_; (first | subst ea_ | (injection ea_ with ea_; subst ea_)); subst ec_; clear en_)); have GB16 := Aside0.mk gb16; have GG16 := Aside0.mk HG16; clear gb16 gl16 HG16; obtain ⟨hx16_0, hf16_0⟩ := Kd.R_celln 0 HO_4.out (x5_1 : Int) p16 q16; replace p16 := eq_true p16; replace q16 := eq_true q16; obtain ⟨hy17_, hz17_⟩ := Kd.R_celln 0 HO_4.out (x5_1 : Int) (of_decide_eq_true tA) (of_decide_eq_true tA); have HP17 := Kd.R_putg HO_4.out (x5_1 : Int) t107) | ((with_reducible refine gate_store (t := 3) (p := 49) rfl ?_); (try (rw [drewN_self wr]; generalize hq_ : World.drewN wr _ = wr; (try have hx16_0 := cell_at hq_ hx16_0); (try have hf16_0 := frozen_at hq_ hf16_0); have n0_ := Aside0.mk (Kd.R_at hq_ HO_4.out); have n1_ := Aside0.mk (below_at hq_ HB.out); clear hq_ HO_4 HB; have HO_4 := n0_; have HB := n1_; clear n0_ n1_; (try (obtain ⟨hy17_, hz17_⟩ := Kd.R_celln 0 HO_4.out (x5_1 : Int) (of_decide_eq_true tA) (of_decide_eq_true tA))); (try (have HP17 := Kd.R_putg HO_4.out (x5_1 : Int) t107)))); refine store_event (t := 3) (p := 49) (v := ?vo_w18) (w1 := (wr.setCell ⟨go16, (x5_1 : Int).toNat, none⟩ (.int .i64 t107))) ?hg ?ho ?hn ?hr ?_; (case ho => rfl); (case hg => rfl); (case hn => rfl); (case hr => first | (go_simp; done) | (go_simp; rfl)); intro w18 hw; have hg : wr.grownBy w18 (some go16) := (by rw [hw]; exact HP17.2); have hp_ : Kd.R (Kd.int .i64) 3 w18 w.heap.size (fun _ => True) (.slice (some ⟨go16, 0, none⟩) x4_1.length co16) y108 := (by rw [hw, Ny108.out]; exact HP17.1); clear HP17; have n0_ := Aside0.mk (hp_); have n1_ := Aside0.mk ((by rw [hw]; exact below_set (HB.out) GB16.out : Below w.heap.size w w18)); clear HO_4; clear HB; have HO_4 := n0_; have HB := n1_; clear n0_ n1_; clear hg hw hp_)))
            go_roundg k2
            case measure => have := HK1.out; have := HK2.out; omega
            case rel => exact ⟨(y108), (wrap64 (x5_1 + 1)), (by first | rfl | (simp; done) | (simp only [i64_w]; done) | (simp [*]; done)), H', ⟨by have := HK1.out; have := HK2.out; omega⟩, ⟨tR HO_4.out⟩, ⟨tB⟩⟩
           ·rw [if_neg c15] at H
            exact absurd H (by simp)
          ·rw [if_neg c14] at H
           exact absurd H (by simp)
      ·rw [if_neg c7] at H
       exact absurd H (by simp)
     ·rw [if_neg c6] at H
      have c6b0 := decide_eq_false c6
      clear c6
      obtain rfl := Option.some.inj H
      go_wp2
      repeat (go_quiet (fail); try go_wp2)
      go_ret
      exact ⟨_, by first | rfl | (simp [errW_none, errW_some] <;> rfl) | (simp [*, errW_none, errW_some] <;> rfl), tR HO_4.out, tB⟩
  ·rw [if_neg c3] at H
   exact absurd H (by simp)
 ·rw [if_neg c2] at H
  exact absurd H (by simp)

end Go.Proofs.YtdlbmbijobcljaaDoor.X

namespace Go.Proofs.YtdlbmbijobcljaaDoor.Pure
open Go.RowKit Go.Proofs.YtdlbmbijobcljaaDoor.X Go.Proofs.YtdlbmbijobcljaaDoorW.PrintWords Go.Proofs.YtdlbmbijobcljaaDoorW.PrintLast
set_option linter.unusedVariables false
set_option linter.unusedSimpArgs false
set_option linter.unusedSectionVars false
/-- The sum of row i of the inverse transform, its first m + 1 terms; q = 64/n. -/
def invSum (l : List Int) (q : Int) (i : Nat) : Nat → Int
  | 0 => 16384 * rd l 0
  | m + 1 => invSum l q i m + 2 * rd l ((m + 1 : Nat) : Int) * cosv ((2 * (i : Int) + 1) * ((m + 1 : Nat) : Int) * q)
theorem mul_bound (a b A B : Int) (ha0 : -A ≤ a) (ha1 : a ≤ A) (hb0 : -B ≤ b) (hb1 : b ≤ B) : -(A * B) ≤ a * b ∧ a * b ≤ A * B := by
  have hA : 0 ≤ A := by omega
  have hB : 0 ≤ B := by omega
  have h1 : 0 ≤ (A - a) * (B - b) := Int.mul_nonneg (by omega) (by omega)
  have h2 : 0 ≤ (A + a) * (B + b) := Int.mul_nonneg (by omega) (by omega)
  have h3 : 0 ≤ (A - a) * (B + b) := Int.mul_nonneg (by omega) (by omega)
  have h4 : 0 ≤ (A + a) * (B - b) := Int.mul_nonneg (by omega) (by omega)
  simp only [Int.sub_mul, Int.add_mul, Int.mul_sub, Int.mul_add] at h1 h2 h3 h4
  omega
theorem rd_bound (l : List Int) (B : Int) (hB : 0 ≤ B) (h : ∀ x ∈ l, -B ≤ x ∧ x ≤ B) (i : Int) : -B ≤ rd l i ∧ rd l i ≤ B := by
  unfold rd
  rw [List.getD_eq_getElem?_getD]
  rcases Nat.lt_or_ge i.toNat l.length with hl | hl
  · rw [List.getElem?_eq_getElem hl]; exact h _ (List.getElem_mem hl)
  · rw [List.getElem?_eq_none hl]; simp; omega
theorem invSum_bound (l : List Int) (h : ∀ x ∈ l, -1099511627776 ≤ x ∧ x ≤ 1099511627776) (q : Int) (i m : Nat) : -(18014398509481984 + 36028797018963968 * (m : Int)) ≤ invSum l q i m ∧ invSum l q i m ≤ 18014398509481984 + 36028797018963968 * (m : Int) := by
  induction m with
  | zero =>
    have := rd_bound l 1099511627776 (by omega) h 0
    simp only [invSum]
    omega
  | succ m ih =>
    have h1 := rd_bound l 1099511627776 (by omega) h ((m + 1 : Nat) : Int)
    have h2 := cosv_range ((2 * (i : Int) + 1) * ((m + 1 : Nat) : Int) * q)
    have h3 := mul_bound (2 * rd l ((m + 1 : Nat) : Int)) (cosv ((2 * (i : Int) + 1) * ((m + 1 : Nat) : Int) * q)) 2199023255552 16384 (by omega) (by omega) h2.1 h2.2
    simp only [invSum]
    omega
/-- The index of the cosine, as the program and as the document have it. -/
theorem inv_index (n i m : Nat) (q : Int) (hn : 0 < n) (hq : (n : Int) * q = 64) (hn64 : n ≤ 64) (hi : i < n) (hm : m < n) :
    (if (n : Int) = 0 then (none : Option Int) else feature_cosine.f (wrap64 (Int.tdiv (wrap64 ((wrap64 ((wrap64 ((wrap64 (2 * (i : Int))) + 1)) * (m : Int))) * 64)) (n : Int)))) = some (cosv ((2 * (i : Int) + 1) * (m : Int) * q)) := by
  have h0 : 0 ≤ (2 * (i : Int) + 1) * (m : Int) := Int.mul_nonneg (by omega) (by omega)
  have h1 : (2 * (i : Int) + 1) * (m : Int) ≤ 129 * 64 := by
    have := mul_bound (2 * (i : Int) + 1) (m : Int) 129 64 (by omega) (by omega) (by omega) (by omega)
    omega
  have hq0 : 0 < q := by
    by_cases hq1 : 0 < q
    · exact hq1
    · have : (n : Int) * q ≤ (n : Int) * 0 := Int.mul_le_mul_of_nonneg_left (by omega) (by omega)
      omega
  have hq64 : q ≤ 64 := by
    have : 1 * q ≤ (n : Int) * q := Int.mul_le_mul_of_nonneg_right (by omega) (by omega)
    omega
  have h2 := mul_bound ((2 * (i : Int) + 1) * (m : Int)) q (129 * 64) 64 (by omega) (by omega) (by omega) (by omega)
  have h3 : 0 ≤ (2 * (i : Int) + 1) * (m : Int) * q := Int.mul_nonneg h0 (by omega)
  rw [if_neg (by omega), w64 (n := 2 * (i : Int)) (by omega) (by omega), w64 (n := 2 * (i : Int) + 1) (by omega) (by omega), w64 (n := (2 * (i : Int) + 1) * (m : Int)) (by omega) (by omega), w64 (n := (2 * (i : Int) + 1) * (m : Int) * 64) (by omega) (by omega)]
  have e : (2 * (i : Int) + 1) * (m : Int) * 64 = (n : Int) * ((2 * (i : Int) + 1) * (m : Int) * q) := by
    rw [← hq, Int.mul_left_comm]
  rw [e, Int.mul_tdiv_cancel_left _ (by omega : (n : Int) ≠ 0), w64 (by omega) (by omega)]
  unfold feature_cosine.f
  rw [if_pos h3]
theorem inv_index' (n i m : Nat) (q : Int) (hn : 0 < n) (hq0 : 0 < q) (hq64 : q ≤ 64) (hn64 : n ≤ 64) (hi : i < n) (hm : m < n) :
    earshotref03_C.f (wrap64 ((wrap64 ((wrap64 ((wrap64 (2 * (i : Int))) + 1)) * (m : Int))) * (wrap64 q))) = some (cosv ((2 * (i : Int) + 1) * (m : Int) * q)) := by
  have h0 : 0 ≤ (2 * (i : Int) + 1) * (m : Int) := Int.mul_nonneg (by omega) (by omega)
  have h1 := mul_bound (2 * (i : Int) + 1) (m : Int) 129 64 (by omega) (by omega) (by omega) (by omega)
  have h2 := mul_bound ((2 * (i : Int) + 1) * (m : Int)) q (129 * 64) 64 (by omega) (by omega) (by omega) (by omega)
  have h3 : 0 ≤ (2 * (i : Int) + 1) * (m : Int) * q := Int.mul_nonneg h0 (by omega)
  rw [w64 (n := 2 * (i : Int)) (by omega) (by omega), w64 (n := 2 * (i : Int) + 1) (by omega) (by omega), w64 (n := (2 * (i : Int) + 1) * (m : Int)) (by omega) (by omega), w64 (n := q) (by omega) (by omega), w64 (by omega) (by omega)]
  unfold earshotref03_C.f
  rw [if_pos h3]
/-- The inverse transform. -/
def invAt (l : List Int) (n : Nat) (i : Nat) : Int := rnd (invSum l ((64 : Int) / n) i (n - 1)) ((n : Int) * 268435456)
def invList (l : List Int) (n : Nat) (i : Nat) : List Int := (List.range i).map (invAt l n) ++ List.replicate (n - i) 0
theorem invList_length (l : List Int) (n i : Nat) (h : i ≤ n) : (invList l n i).length = n := by simp [invList]; omega
theorem invList_set (l : List Int) (n i : Nat) (h : i < n) : (invList l n i).set i (invAt l n i) = invList l n (i + 1) := by
  unfold invList
  rw [List.range_succ, List.map_append, List.set_append_right _ _ (by simp)]
  simp only [List.length_map, List.length_range, Nat.sub_self, List.map_cons, List.map_nil, List.append_assoc]
  congr 1
  rw [show n - i = (n - (i + 1)) + 1 by omega, List.replicate_succ]
  rfl
section
variable (l : List Int) (n : Nat) (hn : isLen n = true) (hl : l.length = n) (h : ∀ x ∈ l, -1099511627776 ≤ x ∧ x ≤ 1099511627776)
include hn hl h
theorem inv_last (i : Nat) (hi : i < n) (y : List Int) (hy : y.length = n) (R : List Int × Int) (hR : Ev (fun k => feature_Inverse.l0 k l (n : Int) (y.set i (invAt l n i)) (n : Int) ((i + 1 : Nat) : Int)) R) :
    Ev (fun k => (feature_far.f k (invSum l ((64 : Int) / n) i (n - 1)) (wrap64 ((n : Int) * 268435456))).bind fun t109 => (if 0 ≤ (i : Int) then (if (i : Int) < (y.length : Int) then (feature_Inverse.l0 k l (n : Int) (y.set (i : Int).toNat t109) (n : Int) (wrap64 ((i : Int) + 1))) else (none)) else (none))) R := by
  obtain ⟨n0, n1, _⟩ := isLen_dvd n hn
  have hb := invSum_bound l h ((64 : Int) / n) i (n - 1)
  rw [w64 (by omega) (by omega)]
  refine Ev.bind (far_ev _ _ (by omega) (by omega) (by omega) (by omega)) ?_
  refine Ev.congr (fun k => ?_) hR
  rw [if_pos (by omega), if_pos (by omega), w64 (by omega) (by omega), Int.toNat_natCast]
  rfl
theorem inv_row (i : Nat) (hi : i < n) (y : List Int) (hy : y.length = n) (R : List Int × Int) (hR : Ev (fun k => feature_Inverse.l0 k l (n : Int) (y.set i (invAt l n i)) (n : Int) ((i + 1 : Nat) : Int)) R) :
    ∀ r m : Nat, m + r + 1 = n → Ev (fun k => feature_Inverse.l1 k l (n : Int) y (i : Int) (invSum l ((64 : Int) / n) i m) ((m + 1 : Nat) : Int) (n : Int) (i : Int)) R := by
  obtain ⟨n0, n1, n2, n3, n4⟩ := isLen_dvd n hn
  intro r
  induction r with
  | zero =>
    intro m hm
    have := inv_last l n hn hl h i hi y hy R hR
    rw [show n - 1 = m by omega] at this
    refine Ev.step (fun k => ?_) this
    simp only [feature_Inverse.l1]
    rw [if_neg (by omega)]
  | succ r ih =>
    intro m hm
    have := ih (m + 1) (by omega)
    refine Ev.step (fun k => ?_) this
    simp only [feature_Inverse.l1]
    rw [if_pos (by omega), if_pos (by omega), if_pos (by omega)]
    have hx := inv_index n i (m + 1) ((64 : Int) / n) n0 n2 n1 hi (by omega)
    rw [if_neg (by omega)] at hx
    rw [if_neg (by omega), hx, Option.bind_some]
    have hb := invSum_bound l h ((64 : Int) / n) i (m + 1)
    have h1 := rd_bound l 1099511627776 (by omega) h ((m + 1 : Nat) : Int)
    have h2 := cosv_range ((2 * (i : Int) + 1) * ((m + 1 : Nat) : Int) * ((64 : Int) / n))
    have h3 := mul_bound (2 * rd l ((m + 1 : Nat) : Int)) (cosv ((2 * (i : Int) + 1) * ((m + 1 : Nat) : Int) * ((64 : Int) / n))) 2199023255552 16384 (by omega) (by omega) h2.1 h2.2
    rw [w64 (n := 2 * rd l ((m + 1 : Nat) : Int)) (by omega) (by omega), w64 (n := 2 * rd l ((m + 1 : Nat) : Int) * _) (by omega) (by omega)]
    have e : invSum l ((64 : Int) / n) i m + 2 * rd l ((m + 1 : Nat) : Int) * cosv ((2 * (i : Int) + 1) * ((m + 1 : Nat) : Int) * ((64 : Int) / n)) = invSum l ((64 : Int) / n) i (m + 1) := rfl
    rw [e, w64 (by omega) (by omega), w64 (by omega) (by omega), show ((m + 1 : Nat) : Int) + 1 = ((m + 1 + 1 : Nat) : Int) by omega]
theorem inv_loop : ∀ r i : Nat, i + r = n → Ev (fun k => feature_Inverse.l0 k l (n : Int) (invList l n i) (n : Int) (i : Int)) (invList l n n, 0) := by
  obtain ⟨n0, n1, n2, n3, n4⟩ := isLen_dvd n hn
  intro r
  induction r with
  | zero =>
    intro i hi
    refine Ev.step (f := fun _ => some (invList l n n, 0)) (fun k => ?_) (Ev.now _)
    simp only [feature_Inverse.l0]
    rw [if_neg (by omega), show i = n by omega]
  | succ r ih =>
    intro i hi
    have h1 := ih (i + 1) (by omega)
    rw [← invList_set l n i (by omega)] at h1
    have h2 := inv_row l n hn hl h i (by omega) (invList l n i) (invList_length l n i (by omega)) _ h1 (n - 1) 0 (by omega)
    have hb := rd_bound l 1099511627776 (by omega) h 0
    refine Ev.step (fun k => ?_) h2
    simp only [feature_Inverse.l0]
    rw [if_pos (by omega), if_pos (by omega), w64 (n := 16384 * rd l 0) (by omega) (by omega)]
    rfl
theorem inv_last' (i : Nat) (hi : i < n) (y : List Int) (hy : y.length = n) (R : List Int) (hR : Ev (fun k => earshotref03_Inverse.l0 k l (n : Int) (y.set i (invAt l n i)) ((i + 1 : Nat) : Int)) R) :
    Ev (fun k => (earshotref02_Round.f k (invSum l ((64 : Int) / n) i (n - 1)) (wrap64 ((n : Int) * 268435456))).bind fun t107 => (if 0 ≤ (i : Int) then (if (i : Int) < (y.length : Int) then (earshotref03_Inverse.l0 k l (n : Int) (y.set (i : Int).toNat t107) (wrap64 ((i : Int) + 1))) else (none)) else (none))) R := by
  obtain ⟨n0, n1, _⟩ := isLen_dvd n hn
  have hb := invSum_bound l h ((64 : Int) / n) i (n - 1)
  rw [w64 (by omega) (by omega)]
  refine Ev.bind (round_ev _ _ (by omega) (by omega) (by omega) (by omega) (by omega) (by omega)) ?_
  refine Ev.congr (fun k => ?_) hR
  rw [if_pos (by omega), if_pos (by omega), w64 (by omega) (by omega), Int.toNat_natCast]
  rfl
theorem inv_row' (i : Nat) (hi : i < n) (y : List Int) (hy : y.length = n) (R : List Int) (hR : Ev (fun k => earshotref03_Inverse.l0 k l (n : Int) (y.set i (invAt l n i)) ((i + 1 : Nat) : Int)) R) :
    ∀ r m : Nat, m + r + 1 = n → Ev (fun k => earshotref03_Inverse.l1 k l (n : Int) y (i : Int) (invSum l ((64 : Int) / n) i m) ((m + 1 : Nat) : Int)) R := by
  obtain ⟨n0, n1, n2, n3, n4⟩ := isLen_dvd n hn
  intro r
  induction r with
  | zero =>
    intro m hm
    have := inv_last' l n hn hl h i hi y hy R hR
    rw [show n - 1 = m by omega] at this
    refine Ev.step (fun k => ?_) this
    simp only [earshotref03_Inverse.l1]
    rw [if_neg (by omega)]
  | succ r ih =>
    intro m hm
    have := ih (m + 1) (by omega)
    refine Ev.step (fun k => ?_) this
    simp only [earshotref03_Inverse.l1]
    rw [if_pos (by omega), if_pos (by omega), if_pos (by omega)]
    have hx := inv_index' n i (m + 1) ((64 : Int) / n) n0 (by omega) n4 n1 hi (by omega)
    rw [if_neg (by omega), hx, Option.bind_some]
    have hb := invSum_bound l h ((64 : Int) / n) i (m + 1)
    have h1 := rd_bound l 1099511627776 (by omega) h ((m + 1 : Nat) : Int)
    have h2 := cosv_range ((2 * (i : Int) + 1) * ((m + 1 : Nat) : Int) * ((64 : Int) / n))
    have h3 := mul_bound (2 * rd l ((m + 1 : Nat) : Int)) (cosv ((2 * (i : Int) + 1) * ((m + 1 : Nat) : Int) * ((64 : Int) / n))) 2199023255552 16384 (by omega) (by omega) h2.1 h2.2
    rw [w64 (n := 2 * rd l ((m + 1 : Nat) : Int)) (by omega) (by omega), w64 (n := 2 * rd l ((m + 1 : Nat) : Int) * _) (by omega) (by omega)]
    have e : invSum l ((64 : Int) / n) i m + 2 * rd l ((m + 1 : Nat) : Int) * cosv ((2 * (i : Int) + 1) * ((m + 1 : Nat) : Int) * ((64 : Int) / n)) = invSum l ((64 : Int) / n) i (m + 1) := rfl
    rw [e, w64 (by omega) (by omega), w64 (by omega) (by omega), show ((m + 1 : Nat) : Int) + 1 = ((m + 1 + 1 : Nat) : Int) by omega]
theorem inv_loop' : ∀ r i : Nat, i + r = n → Ev (fun k => earshotref03_Inverse.l0 k l (n : Int) (invList l n i) (i : Int)) (invList l n n) := by
  obtain ⟨n0, n1, n2, n3, n4⟩ := isLen_dvd n hn
  intro r
  induction r with
  | zero =>
    intro i hi
    refine Ev.step (f := fun _ => some (invList l n n)) (fun k => ?_) (Ev.now _)
    simp only [earshotref03_Inverse.l0]
    rw [if_neg (by omega), show i = n by omega]
  | succ r ih =>
    intro i hi
    have h1 := ih (i + 1) (by omega)
    rw [← invList_set l n i (by omega)] at h1
    have h2 := inv_row' l n hn hl h i (by omega) (invList l n i) (invList_length l n i (by omega)) _ h1 (n - 1) 0 (by omega)
    have hb := rd_bound l 1099511627776 (by omega) h 0
    refine Ev.step (fun k => ?_) h2
    simp only [earshotref03_Inverse.l0]
    rw [if_pos (by omega), if_pos (by omega), w64 (n := 16384 * rd l 0) (by omega) (by omega)]
    rfl
theorem ref_inverse_ev : Ev (fun k => earshotref03_Inverse.f k l) (invList l n n) := by
  obtain ⟨n0, n1, n2, n3, n4⟩ := isLen_dvd n hn
  refine Ev.congr (fun k => ?_) (inv_loop' l n hn hl h n 0 (by omega))
  unfold earshotref03_Inverse.f
  rw [if_pos (by omega), if_pos (by omega), hl, Int.toNat_natCast]
  rfl
theorem inverse_ok : Ev (fun k => feature_Inverse.f k l) (invList l n n, 0) := by
  obtain ⟨n0, n1, n2, n3, n4⟩ := isLen_dvd n hn
  have hin : allIn l (-1099511627776) 1099511627776 = true := by
    unfold allIn
    rw [List.all_eq_true]
    intro x hx
    have := h x hx
    simp; omega
  have h1 := inv_loop l n hn hl h n 0 (by omega)
  have h2 : Ev (fun k => feature_Inverse.j0 k l (n : Int) false) (invList l n n, 0) := by
    refine Ev.step (fun k => ?_) h1
    simp only [feature_Inverse.j0]
    rw [if_neg (by simp), if_pos (by omega), if_pos (by omega), Option.bind_some, List.length_replicate, Int.toNat_natCast]
    rfl
  refine Ev.congr (fun k => ?_) h2
  unfold feature_Inverse.f
  rw [hl, possible_at, hn, Option.bind_some, if_pos rfl, within_at _ _ (by omega) (by omega), hin, Option.bind_some]
  rfl
end
theorem inverse_bad (l : List Int) (h : isLen l.length = false ∨ allIn l (-1099511627776) 1099511627776 = false) : Ev (fun k => feature_Inverse.f k l) ([], 2) := by
  have h2 : ∀ n, Ev (fun k => feature_Inverse.j0 k l n true) ([], 2) := fun n => Ev.step (f := fun _ => some ([], 2)) (fun k => by simp only [feature_Inverse.j0]; rw [if_pos trivial]) (Ev.now _)
  refine Ev.congr (fun k => ?_) (h2 (l.length : Int))
  unfold feature_Inverse.f
  rw [possible_at, Option.bind_some]
  cases hp : isLen l.length with
  | false => rw [if_neg (by simp)]
  | true =>
    rcases h with h | h
    · rw [hp] at h; cases h
    · rw [if_pos rfl, within_at _ _ (by omega) (by omega), h, Option.bind_some]
      rfl
theorem allIn_iff (l : List Int) (a b : Int) : allIn l a b = true ↔ ∀ x ∈ l, a ≤ x ∧ x ≤ b := by
  unfold allIn
  rw [List.all_eq_true]
  exact ⟨fun h x hx => by have := h x hx; simp at this; exact this, fun h x hx => by have := h x hx; simp; exact this⟩
end Go.Proofs.YtdlbmbijobcljaaDoor.Pure

namespace Go.Proofs.YtdlbmbijobcljaaDoor.X
open Go.RowKit Go.Proofs.YtdlbmbijobcljaaDoorW.PrintWords Go.Proofs.YtdlbmbijobcljaaDoorW.PrintLast Go.Proofs.YtdlbmbijobcljaaDoorW.PrintMore
attribute [local go_sem] max2_int min2_int max_two min_two max_three min_three max_four min_four   -- for this text's walks alone
set_option linter.unusedVariables false
set_option linter.unusedSimpArgs false
/-! ### earshotref03_Transform: function 53 -/
mutual
def earshotref03_Transform.l0 : Nat → List Int → Int → List Int → Int → Option (List Int)
 | 0, _, _, _, _ => none
 | k + 1, x0, x3, x4, x5 => if x5 < x3 then (earshotref03_Transform.l1 k x0 x3 x4 x5 0) else (some x4)
def earshotref03_Transform.l1 : Nat → List Int → Int → List Int → Int → Int → Option (List Int)
 | 0, _, _, _, _, _ => none
 | k + 1, x0, x3, x4, x5, x6 => if x6 < x3 then (if 0 ≤ x5 then (if x5 < (x4.length : Int) then (if 0 ≤ x6 then (if x6 < (x0.length : Int) then (if x3 = 0 then (none) else ((earshotref03_C.f (wrap64 ((wrap64 ((wrap64 ((wrap64 (2 * x6)) + 1)) * x5)) * (wrap64 ((64 : Int) / x3))))).bind fun t106 => (earshotref03_Transform.l1 k x0 x3 (x4.set (x5 : Int).toNat (wrap64 ((rd x4 x5) + (wrap64 ((rd x0 x6) * t106))))) x5 (wrap64 (x6 + 1))))) else (none)) else (none)) else (none)) else (none)) else (earshotref03_Transform.l0 k x0 x3 x4 (wrap64 (x5 + 1)))
end
def earshotref03_Transform.f (k : Nat) (l0 : List Int) : Option (List Int) := if 0 ≤ (l0.length : Int) then (if ((l0.length : Int) : Int).toNat ≤ 35184372088832 then (earshotref03_Transform.l0 k l0 (l0.length : Int) (List.replicate ((l0.length : Int) : Int).toNat 0) 0) else (none)) else (none)
theorem earshotref03_Transform.mono_l : ∀ k, (∀ y0 y1 y2 y3, LeO (earshotref03_Transform.l0 k y0 y1 y2 y3) (earshotref03_Transform.l0 (k + 1) y0 y1 y2 y3)) ∧ (∀ y0 y1 y2 y3 y4, LeO (earshotref03_Transform.l1 k y0 y1 y2 y3 y4) (earshotref03_Transform.l1 (k + 1) y0 y1 y2 y3 y4))
 | 0 => ⟨fun _ _ _ _ r h => by simp [earshotref03_Transform.l0] at h, fun _ _ _ _ _ r h => by simp [earshotref03_Transform.l1] at h⟩
 | k + 1 => by
  obtain ⟨ih0, ih1⟩ := earshotref03_Transform.mono_l k
  refine ⟨?_, ?_⟩
  ·intro y0 y1 y2 y3
   unfold earshotref03_Transform.l0
   repeat' first
   | (with_reducible exact ih0 _ _ _ _)
   | (with_reducible exact ih1 _ _ _ _ _)
   | (with_reducible exact LeO.refl _)
   | (with_reducible exact LeO.none _)
   | (with_reducible refine LeO.ite ?_ ?_)
   | (with_reducible refine LeO.bind ?_ (fun _ => ?_))
   | exact ih0 _ _ _ _
   | exact ih1 _ _ _ _ _
   | exact LeO.none _
   | refine LeO.ite ?_ ?_
   | refine LeO.bind ?_ (fun _ => ?_)
  ·intro y0 y1 y2 y3 y4
   unfold earshotref03_Transform.l1
   repeat' first
   | (with_reducible exact ih0 _ _ _ _)
   | (with_reducible exact ih1 _ _ _ _ _)
   | (with_reducible exact LeO.refl _)
   | (with_reducible exact LeO.none _)
   | (with_reducible refine LeO.ite ?_ ?_)
   | (with_reducible refine LeO.bind ?_ (fun _ => ?_))
   | exact ih0 _ _ _ _
   | exact ih1 _ _ _ _ _
   | exact LeO.none _
   | refine LeO.ite ?_ ?_
   | refine LeO.bind ?_ (fun _ => ?_)
theorem earshotref03_Transform.mono : ∀ a0 k, LeO (earshotref03_Transform.f k a0) (earshotref03_Transform.f (k + 1) a0) := by
 intro a0 k
 obtain ⟨ih0, ih1⟩ := earshotref03_Transform.mono_l k
 unfold earshotref03_Transform.f
 repeat' first
   | (with_reducible exact ih0 _ _ _ _)
   | (with_reducible exact ih1 _ _ _ _ _)
   | (with_reducible exact LeO.refl _)
   | (with_reducible exact LeO.none _)
   | (with_reducible refine LeO.ite ?_ ?_)
   | (with_reducible refine LeO.bind ?_ (fun _ => ?_))
   | exact ih0 _ _ _ _
   | exact ih1 _ _ _ _ _
   | exact LeO.none _
   | refine LeO.ite ?_ ?_
   | refine LeO.bind ?_ (fun _ => ?_)
def earshotref03_Transform.T9 : Bool × List (List Nat × List Nat) := (true, [([], []), ([], []), ([], []), ([], []), ([2, 3], [2, 3]), ([4], [4]), ([], []), ([], []), ([6, 7], [6, 7]), ([8], [8]), ([], []), ([10], [10]), ([11], [11]), ([], []), ([12, 13], [12, 13]), ([], []), ([15], [15]), ([14, 16], [14, 16]), ([17], [17]), ([9, 18], [9, 18]), ([5, 19], [5, 19]), ([0, 1, 0, 1, 2, 3, 4, 5, 6, 7, 8, 9, 10, 11, 12, 13, 14, 15, 16, 17, 18, 19, 20], [0, 1]), ([21, 20, 18, 0, 1, 2, 3, 4, 5, 6, 7, 8, 9, 10, 11, 12, 13, 14, 15, 16, 17, 18, 19, 20], [20, 21])])
def earshotref03_Transform.B9 : List Nat := [0, 0, 0, 0, 12, 28, 0, 0, 192, 448, 0, 1024, 3072, 0, 15360, 0, 32768, 130048, 261120, 524224, 1048572, 2097151, 4194303]
theorem earshotref03_Transform.tab9 : rtab .any (opsOf Tryd.f53 9) = earshotref03_Transform.T9 := by kernel_rfl
theorem earshotref03_Transform.bits9 : waitsOk earshotref03_Transform.T9.2 earshotref03_Transform.B9 = true := by kernel_rfl
set_option maxHeartbeats 8000000 in
set_option maxRecDepth 100000 in
theorem earshotref03_Transform.calls (k : Nat) (A0 : Option Addr) (c0 : Nat) (l0 : List Int) (r : List Int) (w : World) (ht : Kd.C (Kd.int .i64) w (some ⟨0, 0, none⟩) 65 tabL) (hr0 : Kd.C (Kd.int .i64) w A0 l0.length l0) (hc0 : l0.length ≤ c0) (h : earshotref03_Transform.f k l0 = some r) :
  Calls Tryd.prog 53 #[.slice A0 l0.length c0] w fun e w' => ∃ v0_ : Value, e = .returned (v0_) ∧ Kd.R (Kd.int .i64) 3 w' w.heap.size (fun _ => True) v0_ r ∧ Below w.heap.size w w' := by
 have HRT := Aside0.mk ht
 clear ht
 have HR0 := Aside0.mk hr0
 have HC0 := Aside0.mk hc0
 clear hr0 hc0
 have HB := Aside0.mk (Below.refl w.heap.size w)
 have H : (if 0 ≤ (l0.length : Int) then (if ((l0.length : Int) : Int).toNat ≤ 35184372088832 then (earshotref03_Transform.l0 k l0 (l0.length : Int) (List.replicate ((l0.length : Int) : Int).toNat 0) 0) else (none)) else (none)) = some r := h
 clear h
 by_cases c2 : 0 ≤ (l0.length : Int)
 ·rw [if_pos c2] at H
  have c2b0 := eq_true c2
  have c2b1 := decide_eq_true c2
  clear c2
  by_cases c3 : ((l0.length : Int) : Int).toNat ≤ 35184372088832
  ·rw [if_pos c3] at H
   have c3b0 := eq_true c3
   have c3b1 := decide_eq_true c3
   clear c3
   obtain ⟨y101, hy101⟩ : ∃ y_ : List Int, y_ = (List.replicate ((l0.length : Int) : Int).toNat 0) := ⟨_, rfl⟩
   replace H : (earshotref03_Transform.l0 k l0 (l0.length : Int) y101 0) = some r := by first | (rw [hy101]; with_reducible exact H) | (have H2_ := (Option.bind_some _ _).symm.trans H; rw [hy101]; with_reducible exact H2_) | (have H2_ := (Option.bind_some _ _).symm.trans H; with_reducible exact H2_) | with_reducible exact H | (rw [hy101]; exact H) | exact H
   have Ny101 := Aside0.mk hy101
   clear hy101
   have H' := Aside0.mk H
   clear H
   go_enter Tryd.func53, Tryd.ntmps53
   go_wp2_with (first | ((with_reducible refine gate_dst (N := 10) rfl ?_); refine Kd.R_make (Kd.int .i64) _ 3 rfl (N := 10) rfl 22 _ _ rfl (l0.length : Int) rfl rfl Tryd.underlying22 (.int .i64 0) 8 info3 rfl (by decide) (by omega) 0 (ok := fun _ => True) (okp := fun _ => True) rfl (fun _ hk => hk) trivial (of_decide_eq_true tA) (Nat.le_trans (Nat.mul_le_mul_right _ (of_decide_eq_true tA : (l0.length : Int).toNat ≤ 35184372088832)) (by omega)) (Below.refl _ _) (Nat.le_refl _) ?_; intro v102 w4 ho5 hb hg_ hnew_; clear hg_ hnew_; (first | rw [← Ny101.out] at ho5 | (simp only [Int.reduceToNat] at ho5; rw [← Ny101.out] at ho5)); have n0_ := Aside0.mk (Kd.R_lower ho5 (below_size tB)); have n1_ := Aside0.mk (below_step tB hb); clear HB; have HO103 := n0_; have HB := n1_; clear n0_ n1_; clear hb ho5))
   go_loopg [5] k (fun kq v5 w' => ∃ (x4_1 : List Int) (x5_1 : Int), v5 = .int .i64 x5_1 ∧ Aside0 (earshotref03_Transform.l0 kq l0 (l0.length : Int) x4_1 x5_1 = some r) ∧ Aside0 (kq ≤ k) ∧ Aside0 (Kd.R (Kd.int .i64) 3 w' w.heap.size (fun _ => True) v102 x4_1) ∧ Aside0 (Below w.heap.size w w'))
   case atStart => exact ⟨(y101), (0), (by first | rfl | (simp; done) | (simp only [i64_w]; done) | (simp [*]; done)), H', ⟨Nat.le_refl _⟩, ⟨tR HO103.out⟩, ⟨tB⟩⟩
   case round =>
    clear H'
    try clear c2
    try clear c2b0
    try clear c2b1
    try clear p2
    try clear c3
    try clear c3b0
    try clear c3b1
    try clear c5
    obtain ⟨x4_1, x5_1, rfl, HA, HK1, HO_4, HB⟩ := hrel
    cases gk with
    | zero => exact absurd HA.out (by simp [earshotref03_Transform.l0])
    | succ k1 =>
     have H := HA.out
     clear HA
     simp only [earshotref03_Transform.l0] at H
     by_cases c6 : x5_1 < (l0.length : Int)
     ·rw [if_pos c6] at H
      have c6b0 := decide_eq_true c6
      clear c6
      have H' := Aside0.mk H
      clear H
      go_wp2
      go_loopg [6] k1 (fun kq v6 w' => ∃ (x4_2 : List Int) (x6_2 : Int), v6 = .int .i64 x6_2 ∧ Aside0 (earshotref03_Transform.l1 kq l0 (l0.length : Int) x4_2 x5_1 x6_2 = some r) ∧ Aside0 (kq ≤ k1) ∧ Aside0 (Kd.R (Kd.int .i64) 3 w' w.heap.size (fun _ => True) v102 x4_2) ∧ Aside0 (Below w.heap.size w w'))
      case atStart => exact ⟨(x4_1), (0), (by first | rfl | (simp; done) | (simp only [i64_w]; done) | (simp [*]; done)), H', ⟨Nat.le_refl _⟩, ⟨tR HO_4.out⟩, ⟨tB⟩⟩
      case round =>
       clear H'
       try clear c2
       try clear c2b0
       try clear c2b1
       try clear p2
       try clear c3
       try clear c3b0
       try clear c3b1
       try clear c5
       try clear c6
       try clear c6b0
       try clear p2
       obtain ⟨x4_2, x6_2, rfl, HA, HK2, HO_4, HB⟩ := hrel
       cases gk with
       | zero => exact absurd HA.out (by simp [earshotref03_Transform.l1])
       | succ k2 =>
        have H := HA.out
        clear HA
        simp only [earshotref03_Transform.l1] at H
        by_cases c7 : x6_2 < (l0.length : Int)
        ·rw [if_pos c7] at H
         have c7b0 := decide_eq_true c7
         clear c7
         by_cases c8 : 0 ≤ x5_1
         ·rw [if_pos c8] at H
          have c8b0 := decide_eq_true c8
          clear c8
          by_cases c9 : x5_1 < (x4_2.length : Int)
          ·rw [if_pos c9] at H
           have c9b0 := decide_eq_true c9
           clear c9
           by_cases c10 : 0 ≤ x6_2
           ·rw [if_pos c10] at H
            have c10b0 := decide_eq_true c10
            clear c10
            by_cases c11 : x6_2 < (l0.length : Int)
            ·rw [if_pos c11] at H
             have c11b0 := decide_eq_true c11
             clear c11
             by_cases c12 : (l0.length : Int) = 0
             ·rw [if_pos c12] at H
              exact absurd H (by simp)
             ·rw [if_neg c12] at H
              have c12b0 : ((l0.length : Int) == 0) = false := beq_eq_false_iff_ne.mpr c12
              have c12b1 : ((l0.length : Int) != 0) = true := bne_iff_ne.mpr c12
              have c12b2 : ¬ (l0 = []) := fun h_ => c12 (by rw [h_]; rfl)
              replace H := Option.bind_eq_some_iff.mp H
              obtain ⟨t106, A130, H⟩ := H
              try dsimp only at H
              have A13 := Aside0.mk A130
              clear A130
              obtain ⟨y107, hy107⟩ : ∃ y_ : List Int, y_ = (x4_2.set (x5_1 : Int).toNat (wrap64 ((rd x4_2 x5_1) + (wrap64 ((rd l0 x6_2) * t106))))) := ⟨_, rfl⟩
              replace H : (earshotref03_Transform.l1 k2 l0 (l0.length : Int) y107 x5_1 (wrap64 (x6_2 + 1))) = some r := by first | (rw [hy107]; with_reducible exact H) | (have H2_ := (Option.bind_some _ _).symm.trans H; rw [hy107]; with_reducible exact H2_) | (have H2_ := (Option.bind_some _ _).symm.trans H; with_reducible exact H2_) | with_reducible exact H | (rw [hy107]; exact H) | exact H
              have Ny107 := Aside0.mk hy107
              clear hy107
              have H' := Aside0.mk H
              clear H
              try go_wp2
              have n0_ := Aside0.mk (Kd.R_drew HO_4.out)
              have n1_ := Aside0.mk (below_drew1 HB.out)
              clear HO_4
              clear HB
              have HO_4 := n0_
              have HB := n1_
              clear n0_ n1_
              obtain ⟨Ao16, co16, eo16⟩ := Kd.R_slice HO_4.out
              (first | subst eo16 | (injection eo16 with f1_ f2_ f3_; have f4_ := f1_.symm; have f5_ := f3_.symm; clear f1_ f2_ f3_; subst f4_; subst f5_))
              have p104 : 0 ≤ (x5_1 : Int) := of_decide_eq_true tA
              have q104 : x5_1 < (x4_2.length : Int) := of_decide_eq_true tA
              obtain ⟨ad104, e104, hx104_0⟩ := Kd.at_int (Kd.R_reads' HO_4.out).2.2 x5_1 p104 q104
              cases e104
              replace p104 := eq_true p104
              replace q104 := eq_true q104
              have p105 : 0 ≤ (x6_2 : Int) := of_decide_eq_true tA
              have q105 : x6_2 < (l0.length : Int) := of_decide_eq_true tA
              obtain ⟨ad105, e105, hx105_0⟩ := Kd.at_int HR0.out x6_2 p105 q105
              have hw105_0 := hx105_0
              cases e105
              replace hx105_0 := (HB.out.cell (World.block_lt_of_cell? w _ hx105_0)).trans hx105_0
              replace p105 := eq_true p105
              replace q105 := eq_true q105
              refine start_ (n := 23) (S := fun w' => w'.cell? (ad104.add (x5_1).toNat) = some (.int .i64 (rd x4_2 x5_1)) ∧ w'.cell? (ad105.add (x6_2).toNat) = some (.int .i64 (rd l0 x6_2))) (ds := [22]) #[false, false, false, false, false, false, false, false, false, false, false, false, false, false, false, false, false, false, false, false, false, false, false] (by kernel_rfl) rfl rfl ⟨hx104_0, ((HB.out.cell (World.block_lt_of_cell? w _ hw105_0)).trans hw105_0)⟩ (fun hHeld => ?_); refine with_tabW earshotref03_Transform.tab9 earshotref03_Transform.bits9 (fun HT_ HW_ => ?_)
              generalize wr.drew = w15 at HO_4 HB hx104_0 hx105_0 hHeld ⊢
              refine pI 0 (some 21) (bm 1 23) HT_.out ?_
              refine pI 1 (some 22) (bm 2 23) HT_.out ?_
              refine pI 2 (some 23) (bm 3 23) HT_.out ?_
              refine pI 3 (some 24) (bm 4 23) HT_.out ?_
              refine pI 4 (some 25) (bm 5 23) HT_.out ?_
              refine pure_ (i := 6) (N := some 27) (v := ?_) (a' := ?_) #[true, true, true, true, true, false, true, false, false, false, false, false, false, false, false, false, false, false, false, false, false, false, false] rfl rfl (any_of HT_.out (by kernel_rfl)) (fun _ _ _ h => h) (Or.inl ⟨by rfl, ?_⟩) ?_ ?_
              rotate_left
              ·intro w'
               go_simp
               with_reducible rfl
              rotate_left
              ·simp only [Act.put, List.setIfInBounds_toArray, List.set_cons_zero, List.set_cons_succ, i64_w, i32_w]
               rfl
              refine pure_ (i := 7) (N := some 28) (v := ?_) (a' := ?_) #[true, true, true, true, true, false, true, true, false, false, false, false, false, false, false, false, false, false, false, false, false, false, false] rfl rfl (any_of HT_.out (by kernel_rfl)) (fun _ _ _ h => h) (Or.inl ⟨by rfl, ?_⟩) ?_ ?_
              rotate_left
              ·intro w'
               go_simp
               with_reducible rfl
              rotate_left
              ·simp only [Act.put, List.setIfInBounds_toArray, List.set_cons_zero, List.set_cons_succ, i64_w, i32_w]
               rfl
              refine pure_ (i := 8) (N := some 29) (v := ?_) (a' := ?_) #[true, true, true, true, true, false, true, true, true, false, false, false, false, false, false, false, false, false, false, false, false, false, false] rfl rfl (any_of HT_.out (by kernel_rfl)) (fun _ _ _ h => h) (Or.inl ⟨by rfl, ?_⟩) ?_ ?_
              rotate_left
              ·intro w'
               go_simp
               with_reducible rfl
              rotate_left
              ·simp only [Act.put, List.setIfInBounds_toArray, List.set_cons_zero, List.set_cons_succ, i64_w, i32_w]
               rfl
              refine pure_ (i := 10) (N := some 31) (v := ?_) (a' := ?_) #[true, true, true, true, true, false, true, true, true, false, true, false, false, false, false, false, false, false, false, false, false, false, false] rfl rfl (any_of HT_.out (by kernel_rfl)) (fun _ _ _ h => h) (Or.inl ⟨by rfl, ?_⟩) ?_ ?_
              rotate_left
              ·intro w'
               go_simp
               with_reducible rfl
              rotate_left
              ·simp only [Act.put, List.setIfInBounds_toArray, List.set_cons_zero, List.set_cons_succ, i64_w, i32_w]
               rfl
              refine pure_ (i := 11) (N := some 32) (v := ?_) (a' := ?_) #[true, true, true, true, true, false, true, true, true, false, true, true, false, false, false, false, false, false, false, false, false, false, false] rfl rfl (any_of HT_.out (by kernel_rfl)) (fun _ _ _ h => h) (Or.inl ⟨by rfl, ?_⟩) ?_ ?_
              rotate_left
              ·intro w'
               go_simp
               with_reducible rfl
              rotate_left
              ·simp only [Act.put, List.setIfInBounds_toArray, List.set_cons_zero, List.set_cons_succ, i64_w, i32_w]
               rfl
              refine pure_ (i := 12) (N := some 33) (v := ?_) (a' := ?_) #[true, true, true, true, true, false, true, true, true, false, true, true, true, false, false, false, false, false, false, false, false, false, false] rfl rfl (any_of HT_.out (by kernel_rfl)) (fun _ _ _ h => h) (Or.inl ⟨by rfl, ?_⟩) ?_ ?_
              rotate_left
              ·intro w'
               go_simp
               with_reducible rfl
              rotate_left
              ·simp only [Act.put, List.setIfInBounds_toArray, List.set_cons_zero, List.set_cons_succ, i64_w, i32_w]
               rfl
              refine pure_ (i := 13) (N := some 34) (v := ?_) (a' := ?_) #[true, true, true, true, true, false, true, true, true, false, true, true, true, true, false, false, false, false, false, false, false, false, false] rfl rfl (any_of HT_.out (by kernel_rfl)) (fun _ _ _ h => h) (Or.inl ⟨by rfl, ?_⟩) ?_ ?_
              rotate_left
              ·intro w'
               go_simp
               with_reducible rfl
              rotate_left
              ·simp only [Act.put, List.setIfInBounds_toArray, List.set_cons_zero, List.set_cons_succ, i64_w, i32_w]
               rfl
              refine pure_ (i := 14) (N := some 35) (v := ?_) (a' := ?_) #[true, true, true, true, true, false, true, true, true, false, true, true, true, true, true, false, false, false, false, false, false, false, false] rfl rfl (any_of HT_.out (by kernel_rfl)) (fun _ _ _ h => h) (Or.inl ⟨by rfl, ?_⟩) ?_ ?_
              rotate_left
              ·intro w'
               go_simp
               with_reducible rfl
              rotate_left
              ·simp only [Act.put, List.setIfInBounds_toArray, List.set_cons_zero, List.set_cons_succ, i64_w, i32_w]
               rfl
              refine pure_ (i := 15) (N := some 36) (v := ?_) (a' := ?_) #[true, true, true, true, true, false, true, true, true, false, true, true, true, true, true, true, false, false, false, false, false, false, false] rfl rfl (any_of HT_.out (by kernel_rfl)) (fun _ _ _ h => h) (Or.inl ⟨by rfl, ?_⟩) ?_ ?_
              rotate_left
              ·intro w'
               go_simp
               with_reducible rfl
              rotate_left
              ·simp only [Act.put, List.setIfInBounds_toArray, List.set_cons_zero, List.set_cons_succ, i64_w, i32_w]
               rfl
              refine pure_ (i := 16) (N := some 37) (v := ?_) (a' := ?_) #[true, true, true, true, true, false, true, true, true, false, true, true, true, true, true, true, true, false, false, false, false, false, false] rfl rfl (any_of HT_.out (by kernel_rfl)) (fun _ _ _ h => h) (Or.inl ⟨by rfl, ?_⟩) ?_ ?_
              rotate_left
              ·intro w'
               go_simp
               with_reducible rfl
              rotate_left
              ·simp only [Act.put, List.setIfInBounds_toArray, List.set_cons_zero, List.set_cons_succ, i64_w, i32_w]
               rfl
              refine pure_ (i := 17) (N := some 38) (v := ?_) (a' := ?_) #[true, true, true, true, true, false, true, true, true, false, true, true, true, true, true, true, true, true, false, false, false, false, false] rfl rfl (any_of HT_.out (by kernel_rfl)) (fun _ _ _ h => h) (Or.inl ⟨by rfl, ?_⟩) ?_ ?_
              rotate_left
              ·intro w'
               go_simp
               with_reducible rfl
              rotate_left
              ·simp only [Act.put, List.setIfInBounds_toArray, List.set_cons_zero, List.set_cons_succ, i64_w, i32_w]
               rfl
              refine take_ (i := 5) (N := some 26) (v := ?_) (a' := ?_) #[true, true, true, true, true, true, true, true, true, false, true, true, true, true, true, true, true, true, false, false, false, false, false] rfl rfl (take_ofW HT_.out HW_.out (by kernel_rfl)) (fun _ _ _ h => h) (Or.inl ⟨by rfl, ?_⟩) hHeld ?_ ?_
              rotate_left
              ·rintro w' ⟨s0, s1⟩
               go_simp
               with_reducible rfl
              rotate_left
              ·simp only [Act.put, List.setIfInBounds_toArray, List.set_cons_zero, List.set_cons_succ, i64_w, i32_w]
               rfl
              refine tk2 9 (some 30) (bm 18 23) HT_.out HW_.out hHeld ?_
              refine one_ (i := 18) (N := some 39) #[true, true, true, true, true, true, true, true, true, true, true, true, true, true, true, true, true, true, true, false, false, false, false] rfl rfl (one_of HT_.out (by kernel_rfl)) (by decide) (fun K hK => ?_)
              refine goes_ Tryd.func48 (by kernel_rfl) rfl #[.int .i64 (wrap64 ((wrap64 ((wrap64 ((wrap64 (2 * x6_2)) + 1)) * x5_1)) * (wrap64 ((64 : Int) / (l0.length : Int)))))] (by rfl) rfl rfl tL ?_
              with_reducible refine (earshotref03_C.calls (wrap64 ((wrap64 ((wrap64 ((wrap64 (2 * x6_2)) + 1)) * x5_1)) * (wrap64 ((64 : Int) / (l0.length : Int))))) t106 _ ?side1 A13.out).mono ?_
              (case side1 => exact tC (Kd.C_below HRT.out HB.out))
              rintro e w' ⟨rfl, ⟨nd, rfl⟩⟩
              refine ⟨_, rfl, ?_⟩
              have p14 : 0 ≤ (x5_1 : Int) := of_decide_eq_true tA
              have q14 : (x5_1 : Int) < ((x4_2.length : Int) : Int) := of_decide_eq_true tA
              obtain ⟨go14, co14, eo14, gb14, gl14, cl14, HG14⟩ := Kd.R_form HO_4.out (by omega)
              (first | cases eo14 | (injection eo14 with ea_ en_ ec_; (first | subst ea_ | (injection ea_ with ea_; subst ea_)); subst ec_; clear en_))
              have GB14 := Aside0.mk gb14
              have GG14 := Aside0.mk HG14
              clear gb14 gl14 HG14
              (first | simp only [add_plain] at hx104_0 | skip)
              obtain ⟨hx14_0, hf14_0⟩ := Kd.R_celln 0 HO_4.out (x5_1 : Int) p14 q14
              replace p14 := eq_true p14
              replace q14 := eq_true q14
              have HP17 := Kd.R_putn HO_4.out (x5_1 : Int) (wrap64 ((rd x4_2 x5_1) + (wrap64 ((rd l0 x6_2) * t106))))
              rw [← Ny107.out] at HP17
              have HQ17 := Aside0.mk HP17
              clear HP17
              refine hK.out _ _ ⟨hHeld.1, ((HB.out.cell (World.block_lt_of_cell? w _ hw105_0)).trans hw105_0)⟩ (fun hHeld => ?_)
              clear hK K
              refine norm_ (a' := ?_) ?_ ?_
              rotate_left
              ·show Act.put _ (some 39) _ = _
               simp only [Act.put, List.setIfInBounds_toArray, List.set_cons_zero, List.set_cons_succ, i64_w, i32_w]
               rfl
              refine pI 19 (some 40) (bm 20 23) HT_.out ?_
              refine pI 20 (some 41) (bm 21 23) HT_.out ?_
              refine pI 21 (some 42) (bm 22 23) HT_.out ?_
              refine last_ (i := 22) (N := none) #[true, true, true, true, true, true, true, true, true, true, true, true, true, true, true, true, true, true, true, true, true, true, true] rfl rfl (one_of HT_.out (by kernel_rfl)) (by decide) (fun K hK => ?_)
              refine skip_ (w1 := ?_) (by rfl) rfl ?_ ?_
              rotate_left
              ·go_simp
               rfl
              refine hK.out _ _ ?_
              clear hK K
              refine done_ (done_of HT_.out (by kernel_rfl)) ?_
              try go_wp2
              go_roundg k2
              case measure => have := HK1.out; have := HK2.out; omega
              case rel => exact ⟨(y107), (wrap64 (x6_2 + 1)), (by first | rfl | (simp; done) | (simp only [i64_w]; done) | (simp [*]; done)), H', ⟨by have := HK1.out; have := HK2.out; omega⟩, ⟨tR HQ17.out⟩, ⟨by repeat (first | (with_reducible first | exact HB.out | apply below_alloc | apply pw_below_drewN | apply below_drew1 | refine below_set ?_ GB14.out) | exact HB.out)⟩⟩
            ·rw [if_neg c11] at H
             exact absurd H (by simp)
           ·rw [if_neg c10] at H
            exact absurd H (by simp)
          ·rw [if_neg c9] at H
           exact absurd H (by simp)
         ·rw [if_neg c8] at H
          exact absurd H (by simp)
        ·rw [if_neg c7] at H
         have c7b0 := decide_eq_false c7
         clear c7
         have H' := Aside0.mk H
         clear H
         go_wp2
         go_roundg k2
         case measure => have := HK1.out; have := HK2.out; omega
         case rel => exact ⟨(x4_2), (wrap64 (x5_1 + 1)), (by first | rfl | (simp; done) | (simp only [i64_w]; done) | (simp [*]; done)), H', ⟨by have := HK1.out; have := HK2.out; omega⟩, ⟨tR HO_4.out⟩, ⟨tB⟩⟩
     ·rw [if_neg c6] at H
      have c6b0 := decide_eq_false c6
      clear c6
      obtain rfl := Option.some.inj H
      go_wp2
      go_ret
      exact ⟨_, by first | rfl | (simp [errW_none, errW_some] <;> rfl) | (simp [*, errW_none, errW_some] <;> rfl), tR HO_4.out, tB⟩
  ·rw [if_neg c3] at H
   exact absurd H (by simp)
 ·rw [if_neg c2] at H
  exact absurd H (by simp)

end Go.Proofs.YtdlbmbijobcljaaDoor.X

namespace Go.Proofs.YtdlbmbijobcljaaDoor.Pure
open Go.RowKit Go.Proofs.YtdlbmbijobcljaaDoor.X Go.Proofs.YtdlbmbijobcljaaDoorW.PrintWords Go.Proofs.YtdlbmbijobcljaaDoorW.PrintLast
set_option linter.unusedVariables false
set_option linter.unusedSimpArgs false
set_option linter.unusedSectionVars false
/-- The sum of row j of the transform, its first m terms; q = 64/n. -/
def trSum (l : List Int) (q : Int) (j : Nat) : Nat → Int
  | 0 => 0
  | m + 1 => trSum l q j m + rd l (m : Int) * cosv ((2 * (m : Int) + 1) * (j : Int) * q)
theorem trSum_bound (l : List Int) (h : ∀ x ∈ l, -65536 ≤ x ∧ x ≤ 65536) (q : Int) (j m : Nat) : -(1073741824 * (m : Int)) ≤ trSum l q j m ∧ trSum l q j m ≤ 1073741824 * (m : Int) := by
  induction m with
  | zero => simp [trSum]
  | succ m ih =>
    have h1 := rd_bound l 65536 (by omega) h (m : Int)
    have h2 := cosv_range ((2 * (m : Int) + 1) * (j : Int) * q)
    have h3 := mul_bound (rd l (m : Int)) (cosv ((2 * (m : Int) + 1) * (j : Int) * q)) 65536 16384 (by omega) (by omega) h2.1 h2.2
    simp only [trSum]
    omega
def trAt (l : List Int) (n j : Nat) : Int := trSum l ((64 : Int) / n) j n
def trList (l : List Int) (n j : Nat) : List Int := (List.range j).map (trAt l n) ++ List.replicate (n - j) 0
theorem trList_length (l : List Int) (n j : Nat) (h : j ≤ n) : (trList l n j).length = n := by simp [trList]; omega
theorem trList_set (l : List Int) (n j : Nat) (h : j < n) : (trList l n j).set j (trAt l n j) = trList l n (j + 1) := by
  unfold trList
  rw [List.range_succ, List.map_append, List.set_append_right _ _ (by simp)]
  simp only [List.length_map, List.length_range, Nat.sub_self, List.map_cons, List.map_nil, List.append_assoc]
  congr 1
  rw [show n - j = (n - (j + 1)) + 1 by omega, List.replicate_succ]
  rfl
theorem trList_set0 (l : List Int) (n j : Nat) (h : j < n) : (trList l n j).set j 0 = trList l n j := by
  unfold trList
  rw [List.set_append_right _ _ (by simp)]
  simp only [List.length_map, List.length_range, Nat.sub_self]
  congr 1
  rw [show n - j = (n - (j + 1)) + 1 by omega, List.replicate_succ]
  rfl
theorem rd_set (y : List Int) (j : Nat) (h : j < y.length) (a : Int) : rd (y.set j a) (j : Int) = a := by
  rw [rd_nat, List.getD_eq_getElem?_getD, List.getElem?_set, if_pos rfl, if_pos h]; rfl
section
variable (l : List Int) (n : Nat) (hn : isLen n = true) (hl : l.length = n) (h : ∀ x ∈ l, -65536 ≤ x ∧ x ≤ 65536)
include hn hl h
theorem tr_term (j m : Nat) : wrap64 (trSum l ((64 : Int) / n) j m + wrap64 (rd l (m : Int) * cosv ((2 * (m : Int) + 1) * (j : Int) * ((64 : Int) / n)))) = trSum l ((64 : Int) / n) j (m + 1) ∨ 64 < m := by
  by_cases hm : 64 < m
  · exact .inr hm
  · left
    have h1 := rd_bound l 65536 (by omega) h (m : Int)
    have h2 := cosv_range ((2 * (m : Int) + 1) * (j : Int) * ((64 : Int) / n))
    have h3 := mul_bound (rd l (m : Int)) (cosv ((2 * (m : Int) + 1) * (j : Int) * ((64 : Int) / n))) 65536 16384 (by omega) (by omega) h2.1 h2.2
    have h4 := trSum_bound l h ((64 : Int) / n) j m
    rw [w64 (n := rd l (m : Int) * _) (by omega) (by omega), w64 (by omega) (by omega)]
    rfl
theorem tr_row (j : Nat) (hj : j < n) (y : List Int) (hy : y.length = n) (R : List Int) (hR : Ev (fun k => feature_transform.l0 k l (n : Int) (y.set j (trAt l n j)) (n : Int) ((j + 1 : Nat) : Int)) R) :
    ∀ r m : Nat, m + r = n → Ev (fun k => feature_transform.l1 k l (n : Int) (y.set j (trSum l ((64 : Int) / n) j m)) (j : Int) (n : Int) (j : Int) l (n : Int) (m : Int)) R := by
  obtain ⟨n0, n1, n2, n3, n4⟩ := isLen_dvd n hn
  intro r
  induction r with
  | zero =>
    intro m hm
    obtain rfl : m = n := by omega
    refine Ev.step (fun k => ?_) hR
    simp only [feature_transform.l1]
    rw [if_neg (by omega), w64 (by omega) (by omega)]
    rfl
  | succ r ih =>
    intro m hm
    have h1 := ih (m + 1) (by omega)
    refine Ev.step (fun k => ?_) h1
    simp only [feature_transform.l1]
    have hx : (if (n : Int) = 0 then (none : Option Int) else feature_cosine.f (wrap64 (Int.tdiv (wrap64 ((wrap64 ((wrap64 ((wrap64 (2 * (m : Int))) + 1)) * (j : Int))) * 64)) (n : Int)))) = some (cosv ((2 * (m : Int) + 1) * (j : Int) * ((64 : Int) / n))) := inv_index n m j ((64 : Int) / n) n0 n2 n1 (by omega) hj
    rw [if_neg (by omega)] at hx
    rw [if_pos (by omega), if_pos (by omega), if_pos (by omega), if_pos (by omega), if_pos (by rw [List.length_set]; omega), if_neg (by omega), hx, Option.bind_some, rd_set _ _ (by omega), Int.toNat_natCast, List.set_set]
    rcases tr_term l n hn hl h j m with ht | ht
    · rw [ht, w64 (by omega) (by omega), show (m : Int) + 1 = ((m + 1 : Nat) : Int) by omega]
    · omega
theorem tr_loop : ∀ r j : Nat, j + r = n → Ev (fun k => feature_transform.l0 k l (n : Int) (trList l n j) (n : Int) (j : Int)) (trList l n n) := by
  obtain ⟨n0, n1, n2, n3, n4⟩ := isLen_dvd n hn
  intro r
  induction r with
  | zero =>
    intro j hj
    refine Ev.step (f := fun _ => some (trList l n n)) (fun k => ?_) (Ev.now _)
    simp only [feature_transform.l0]
    rw [if_neg (by omega), show j = n by omega]
  | succ r ih =>
    intro j hj
    have h1 := ih (j + 1) (by omega)
    rw [← trList_set l n j (by omega)] at h1
    have h2 := tr_row l n hn hl h j (by omega) (trList l n j) (trList_length l n j (by omega)) _ h1 n 0 (by omega)
    rw [show trSum l ((64 : Int) / n) j 0 = 0 from rfl, trList_set0 l n j (by omega)] at h2
    refine Ev.step (fun k => ?_) h2
    simp only [feature_transform.l0]
    rw [if_pos (by omega), hl]
    rfl
theorem transform_ev : Ev (fun k => feature_transform.f k l) (trList l n n) := by
  obtain ⟨n0, n1, n2, n3, n4⟩ := isLen_dvd n hn
  refine Ev.congr (fun k => ?_) (tr_loop l n hn hl h n 0 (by omega))
  unfold feature_transform.f
  rw [if_pos (by omega), if_pos (by omega), Option.bind_some, List.length_replicate, hl, Int.toNat_natCast]
  rfl
theorem tr_row' (j : Nat) (hj : j < n) (y : List Int) (hy : y.length = n) (R : List Int) (hR : Ev (fun k => earshotref03_Transform.l0 k l (n : Int) (y.set j (trAt l n j)) ((j + 1 : Nat) : Int)) R) :
    ∀ r m : Nat, m + r = n → Ev (fun k => earshotref03_Transform.l1 k l (n : Int) (y.set j (trSum l ((64 : Int) / n) j m)) (j : Int) (m : Int)) R := by
  obtain ⟨n0, n1, n2, n3, n4⟩ := isLen_dvd n hn
  intro r
  induction r with
  | zero =>
    intro m hm
    obtain rfl : m = n := by omega
    refine Ev.step (fun k => ?_) hR
    simp only [earshotref03_Transform.l1]
    rw [if_neg (by omega), w64 (by omega) (by omega)]
    rfl
  | succ r ih =>
    intro m hm
    have h1 := ih (m + 1) (by omega)
    refine Ev.step (fun k => ?_) h1
    simp only [earshotref03_Transform.l1]
    have hx := inv_index' n m j ((64 : Int) / n) n0 (by omega) n4 n1 (by omega) hj
    rw [if_pos (by omega), if_pos (by omega), if_pos (by rw [List.length_set]; omega), if_pos (by omega), if_pos (by omega), if_neg (by omega), hx, Option.bind_some, rd_set _ _ (by omega), Int.toNat_natCast, List.set_set]
    rcases tr_term l n hn hl h j m with ht | ht
    · rw [ht, w64 (by omega) (by omega), show (m : Int) + 1 = ((m + 1 : Nat) : Int) by omega]
    · omega
theorem tr_loop' : ∀ r j : Nat, j + r = n → Ev (fun k => earshotref03_Transform.l0 k l (n : Int) (trList l n j) (j : Int)) (trList l n n) := by
  obtain ⟨n0, n1, n2, n3, n4⟩ := isLen_dvd n hn
  intro r
  induction r with
  | zero =>
    intro j hj
    refine Ev.step (f := fun _ => some (trList l n n)) (fun k => ?_) (Ev.now _)
    simp only [earshotref03_Transform.l0]
    rw [if_neg (by omega), show j = n by omega]
  | succ r ih =>
    intro j hj
    have h1 := ih (j + 1) (by omega)
    rw [← trList_set l n j (by omega)] at h1
    have h2 := tr_row' l n hn hl h j (by omega) (trList l n j) (trList_length l n j (by omega)) _ h1 n 0 (by omega)
    rw [show trSum l ((64 : Int) / n) j 0 = 0 from rfl, trList_set0 l n j (by omega)] at h2
    refine Ev.step (fun k => ?_) h2
    simp only [earshotref03_Transform.l0]
    rw [if_pos (by omega)]
    rfl
theorem ref_transform_ev : Ev (fun k => earshotref03_Transform.f k l) (trList l n n) := by
  obtain ⟨n0, n1, n2, n3, n4⟩ := isLen_dvd n hn
  refine Ev.congr (fun k => ?_) (tr_loop' l n hn hl h n 0 (by omega))
  unfold earshotref03_Transform.f
  rw [if_pos (by omega), if_pos (by omega), hl, Int.toNat_natCast]
  rfl
theorem within_ok : feature_within.f l 65536 = some true := by
  rw [within_at _ _ (by omega) (by omega)]
  congr 1
  unfold allIn
  rw [List.all_eq_true]
  intro x hx
  have := h x hx
  simp; omega
theorem Transform_ok : Ev (fun k => feature_Transform.f k l) (trList l n n, 0) := by
  refine Ev.congr (f := fun k => (feature_transform.f k l).bind fun t103 => some (t103, 0)) (fun k => ?_) (Ev.bind (transform_ev l n hn hl h) (Ev.now _))
  unfold feature_Transform.f
  rw [hl, possible_at, hn, Option.bind_some, if_pos rfl, within_ok l n hn hl h, Option.bind_some, if_pos rfl]
end
theorem Transform_bad (l : List Int) (h : isLen l.length = false ∨ allIn l (-65536) 65536 = false) (k : Nat) : feature_Transform.f k l = some ([], 2) := by
  unfold feature_Transform.f
  rw [possible_at, Option.bind_some]
  cases hp : isLen l.length with
  | false => rw [if_neg (by simp)]
  | true =>
    rcases h with h | h
    · rw [hp] at h; cases h
    · rw [if_pos rfl, within_at _ _ (by omega) (by omega), h, Option.bind_some]
      rfl
end Go.Proofs.YtdlbmbijobcljaaDoor.Pure

namespace Go.Proofs.YtdlbmbijobcljaaDoor.X
open Go.RowKit Go.Proofs.YtdlbmbijobcljaaDoorW.PrintWords Go.Proofs.YtdlbmbijobcljaaDoorW.PrintLast Go.Proofs.YtdlbmbijobcljaaDoorW.PrintMore
attribute [local go_sem] max2_int min2_int max_two min_two max_three min_three max_four min_four   -- for this text's walks alone
set_option linter.unusedVariables false
set_option linter.unusedSimpArgs false
/-! ### earshotref03_Spectrum: function 54 -/
def earshotref03_Spectrum.l0 : Nat → List Int → List Int → Int → Option (List Int)
 | 0, _, _, _ => none
 | k + 1, x3, x4, x5 => if x5 < (x3.length : Int) then (if 0 ≤ x5 then ((earshotref02_Round.f k (rd x3 x5) 16384).bind fun t108 => (if x5 < (x4.length : Int) then (earshotref03_Spectrum.l0 k x3 (x4.set (x5 : Int).toNat t108) (wrap64 (x5 + 1))) else (none))) else (none)) else (some x4)
def earshotref03_Spectrum.f (k : Nat) (l0 : List Int) : Option (List Int) := (earshotref03_Transform.f k l0).bind fun t101 => (if 0 ≤ (t101.length : Int) then (if ((t101.length : Int) : Int).toNat ≤ 35184372088832 then (earshotref03_Spectrum.l0 k t101 (List.replicate ((t101.length : Int) : Int).toNat 0) 0) else (none)) else (none))
theorem earshotref03_Spectrum.mono_l : ∀ k, (∀ y0 y1 y2, LeO (earshotref03_Spectrum.l0 k y0 y1 y2) (earshotref03_Spectrum.l0 (k + 1) y0 y1 y2))
 | 0 => fun _ _ _ r h => by simp [earshotref03_Spectrum.l0] at h
 | k + 1 => by
  have ih0 := earshotref03_Spectrum.mono_l k
  ·intro y0 y1 y2
   unfold earshotref03_Spectrum.l0
   repeat' first
   | (with_reducible exact ih0 _ _ _)
   | (with_reducible exact earshotref02_Round.mono _ _ _)
   | (with_reducible exact earshotref03_Transform.mono _ _)
   | (with_reducible exact LeO.refl _)
   | (with_reducible exact LeO.none _)
   | (with_reducible refine LeO.ite ?_ ?_)
   | (with_reducible refine LeO.bind ?_ (fun _ => ?_))
   | exact ih0 _ _ _
   | exact earshotref02_Round.mono _ _ _
   | exact earshotref03_Transform.mono _ _
   | exact LeO.none _
   | refine LeO.ite ?_ ?_
   | refine LeO.bind ?_ (fun _ => ?_)
theorem earshotref03_Spectrum.mono : ∀ a0 k, LeO (earshotref03_Spectrum.f k a0) (earshotref03_Spectrum.f (k + 1) a0) := by
 intro a0 k
 have ih0 := earshotref03_Spectrum.mono_l k
 unfold earshotref03_Spectrum.f
 repeat' first
   | (with_reducible exact ih0 _ _ _)
   | (with_reducible exact earshotref02_Round.mono _ _ _)
   | (with_reducible exact earshotref03_Transform.mono _ _)
   | (with_reducible exact LeO.refl _)
   | (with_reducible exact LeO.none _)
   | (with_reducible refine LeO.ite ?_ ?_)
   | (with_reducible refine LeO.bind ?_ (fun _ => ?_))
   | exact ih0 _ _ _
   | exact earshotref02_Round.mono _ _ _
   | exact earshotref03_Transform.mono _ _
   | exact LeO.none _
   | refine LeO.ite ?_ ?_
   | refine LeO.bind ?_ (fun _ => ?_)
set_option maxHeartbeats 8000000 in
set_option maxRecDepth 100000 in
theorem earshotref03_Spectrum.calls (k : Nat) (A0 : Option Addr) (c0 : Nat) (l0 : List Int) (r : List Int) (w : World) (ht : Kd.C (Kd.int .i64) w (some ⟨0, 0, none⟩) 65 tabL) (hr0 : Kd.C (Kd.int .i64) w A0 l0.length l0) (hc0 : l0.length ≤ c0) (h : earshotref03_Spectrum.f k l0 = some r) :
  Calls Tryd.prog 54 #[.slice A0 l0.length c0] w fun e w' => ∃ v0_ : Value, e = .returned (v0_) ∧ Kd.R (Kd.int .i64) 3 w' w.heap.size (fun _ => True) v0_ r ∧ Below w.heap.size w w' := by
 have HRT := Aside0.mk ht
 clear ht
 have HR0 := Aside0.mk hr0
 have HC0 := Aside0.mk hc0
 clear hr0 hc0
 have HB := Aside0.mk (Below.refl w.heap.size w)
 have H : ((earshotref03_Transform.f k l0).bind fun t101 => (if 0 ≤ (t101.length : Int) then (if ((t101.length : Int) : Int).toNat ≤ 35184372088832 then (earshotref03_Spectrum.l0 k t101 (List.replicate ((t101.length : Int) : Int).toNat 0) 0) else (none)) else (none))) = some r := h
 clear h
 replace H := Option.bind_eq_some_iff.mp H
 obtain ⟨t101, A20, H⟩ := H
 try dsimp only at H
 have A2 := Aside0.mk A20
 clear A20
 by_cases c3 : 0 ≤ (t101.length : Int)
 ·rw [if_pos c3] at H
  have c3b0 := eq_true c3
  have c3b1 := decide_eq_true c3
  clear c3
  by_cases c4 : ((t101.length : Int) : Int).toNat ≤ 35184372088832
  ·rw [if_pos c4] at H
   have c4b0 := eq_true c4
   have c4b1 := decide_eq_true c4
   clear c4
   obtain ⟨y104, hy104⟩ : ∃ y_ : List Int, y_ = (List.replicate ((t101.length : Int) : Int).toNat 0) := ⟨_, rfl⟩
   replace H : (earshotref03_Spectrum.l0 k t101 y104 0) = some r := by first | (rw [hy104]; with_reducible exact H) | (have H2_ := (Option.bind_some _ _).symm.trans H; rw [hy104]; with_reducible exact H2_) | (have H2_ := (Option.bind_some _ _).symm.trans H; with_reducible exact H2_) | with_reducible exact H | (rw [hy104]; exact H) | exact H
   have Ny104 := Aside0.mk hy104
   clear hy104
   have H' := Aside0.mk H
   clear H
   go_enter Tryd.func54, Tryd.ntmps54
   go_wp2_with (first | ((with_reducible refine gate_callee (f := 53) rfl ?_); refine goesL_ (some 7) rfl rfl Tryd.func53 (by kernel_rfl) rfl #[.slice A0 l0.length c0] rfl tL ?_; (with_reducible refine (earshotref03_Transform.calls k _ _ l0 t101 _ ?side3 ?side1 ?side2 A2.out).mono ?_); (case side1 => exact tC HR0.out); (case side2 => exact HC0.out); (case side3 => exact tC HRT.out); rintro e w5 ⟨v102, rfl, ho0, hb⟩; refine ⟨_, rfl, ?_⟩; have n0_ := Aside0.mk (Kd.R_lower ho0 (below_size tB)); have n1_ := Aside0.mk (below_step tB hb); clear HB; have HO103 := n0_; have HB := n1_; clear n0_ n1_; (try clear hb); (try clear hb2); (try clear hk); (try clear hi); (try clear ho0); obtain ⟨Ao6, co6, eo6⟩ := Kd.R_slice HO103.out; subst eo6) | ((with_reducible refine gate_dst (N := 10) rfl ?_); refine Kd.R_make (Kd.int .i64) _ 3 rfl (N := 10) rfl 22 _ _ rfl (t101.length : Int) rfl rfl Tryd.underlying22 (.int .i64 0) 8 info3 rfl (by decide) (by omega) 0 (ok := fun _ => True) (okp := fun _ => True) rfl (fun _ hk => hk) trivial (of_decide_eq_true tA) (Nat.le_trans (Nat.mul_le_mul_right _ (of_decide_eq_true tA : (t101.length : Int).toNat ≤ 35184372088832)) (by omega)) (Below.refl _ _) (Nat.le_refl _) ?_; intro v105 w7 ho8 hb hg_ hnew_; clear hg_ hnew_; (first | rw [← Ny104.out] at ho8 | (simp only [Int.reduceToNat] at ho8; rw [← Ny104.out] at ho8)); have n0_ := Aside0.mk (Kd.R_elder' (tR HO103.out) (Kd.R_base ho8) hb); have n1_ := Aside0.mk (Kd.R_lower (Kd.R_new' ho8 (Kd.R_lt (tR HO103.out))) (below_size tB)); have n2_ := Aside0.mk (below_step tB hb); clear HO103; clear HB; have HO103 := n0_; have HO106 := n1_; have HB := n2_; clear n0_ n1_ n2_; clear hb ho8))
   go_loopg [5] k (fun kq v5 w' => ∃ (x4_1 : List Int) (x5_1 : Int), v5 = .int .i64 x5_1 ∧ Aside0 (earshotref03_Spectrum.l0 kq t101 x4_1 x5_1 = some r) ∧ Aside0 (kq ≤ k) ∧ Aside0 (Kd.R (Kd.int .i64) 3 w' w.heap.size (fun k_ => some k_ ≠ (v105 : Value).ownBlock) (.slice Ao6 t101.length co6) t101) ∧ Aside0 (Kd.R (Kd.int .i64) 3 w' w.heap.size (fun k_ => some k_ ≠ ((.slice Ao6 t101.length co6) : Value).ownBlock) v105 x4_1) ∧ Aside0 (Below w.heap.size w w'))
   case atStart => exact ⟨(y104), (0), (by first | rfl | (simp; done) | (simp only [i64_w]; done) | (simp [*]; done)), H', ⟨Nat.le_refl _⟩, ⟨by (with_reducible repeat (first | apply Kd.R_alloc | apply Kd.R_drewN | apply Kd.R_drew)); exact Kd.R_mono HO103.out (fun _ hk => hk.2)⟩, ⟨by (with_reducible repeat (first | apply Kd.R_alloc | apply Kd.R_drewN | apply Kd.R_drew)); exact Kd.R_mono HO106.out (fun _ hk => hk.2)⟩, ⟨tB⟩⟩
   case round =>
    clear H'
    try clear p2
    try clear c3
    try clear c3b0
    try clear c3b1
    try clear c4
    try clear c4b0
    try clear c4b1
    try clear c5
    obtain ⟨x4_1, x5_1, rfl, HA, HK1, HO_3, HO_4, HB⟩ := hrel
    cases gk with
    | zero => exact absurd HA.out (by simp [earshotref03_Spectrum.l0])
    | succ k1 =>
     have H := HA.out
     clear HA
     simp only [earshotref03_Spectrum.l0] at H
     by_cases c9 : x5_1 < (t101.length : Int)
     ·rw [if_pos c9] at H
      have c9b0 := decide_eq_true c9
      clear c9
      by_cases c10 : 0 ≤ x5_1
      ·rw [if_pos c10] at H
       have c10b0 := decide_eq_true c10
       clear c10
       replace H := Option.bind_eq_some_iff.mp H
       obtain ⟨t108, A110, H⟩ := H
       try dsimp only at H
       have A11 := Aside0.mk A110
       clear A110
       by_cases c12 : x5_1 < (x4_1.length : Int)
       ·rw [if_pos c12] at H
        have c12b0 := decide_eq_true c12
        clear c12
        obtain ⟨y109, hy109⟩ : ∃ y_ : List Int, y_ = (x4_1.set (x5_1 : Int).toNat t108) := ⟨_, rfl⟩
        replace H : (earshotref03_Spectrum.l0 k1 t101 y109 (wrap64 (x5_1 + 1))) = some r := by first | (rw [hy109]; with_reducible exact H) | (have H2_ := (Option.bind_some _ _).symm.trans H; rw [hy109]; with_reducible exact H2_) | (have H2_ := (Option.bind_some _ _).symm.trans H; with_reducible exact H2_) | with_reducible exact H | (rw [hy109]; exact H) | exact H
        have Ny109 := Aside0.mk hy109
        clear hy109
        have H' := Aside0.mk H
        clear H
        have p107 : 0 ≤ (x5_1 : Int) := of_decide_eq_true tA
        have q107 : x5_1 < (t101.length : Int) := of_decide_eq_true tA
        obtain ⟨ad107, e107, hx107_0⟩ := Kd.at_int (Kd.R_reads' HO_3.out).2.2 x5_1 p107 q107
        cases e107
        replace p107 := eq_true p107
        replace q107 := eq_true q107
        go_wp2_with (first | ((with_reducible refine gate_callee (f := 83) rfl ?_); refine goesL_ (some 23) rfl rfl Tryd.func83 (by kernel_rfl) rfl #[.int .i64 (rd t101 x5_1), .int .i64 16384] rfl tL ?_; (with_reducible refine (earshotref02_Round.calls k1 (rd t101 x5_1) 16384 t108 _ A11.out).mono ?_); rintro e w' ⟨rfl, ⟨nd, rfl⟩⟩; refine ⟨_, rfl, ?_⟩; (try (rw [drewN_self wr]; generalize hq_ : World.drewN wr _ = wr; have n0_ : Aside0 (Kd.R (Kd.int .i64) 3 wr w.heap.size (fun k_ => some k_ ≠ (v105 : Value).ownBlock) (.slice (some ad107) t101.length co6) t101) := ⟨by rw [← hq_]; exact (tR HO_3.out)⟩; have n1_ : Aside0 (Kd.R (Kd.int .i64) 3 wr w.heap.size (fun k_ => some k_ ≠ (.slice (some ad107) t101.length co6 : Value).ownBlock) v105 x4_1) := ⟨by rw [← hq_]; exact (tR HO_4.out)⟩; have n2_ : Aside0 (Below w.heap.size w wr) := ⟨by rw [← hq_]; exact tB⟩; clear HO_3 HO_4 HB hq_; have HO_3 := n0_; have HO_4 := n1_; have HB := n2_; clear n0_ n1_ n2_)); have p13 : 0 ≤ (x5_1 : Int) := of_decide_eq_true tA; have q13 : (x5_1 : Int) < ((x4_1.length : Int) : Int) := of_decide_eq_true tA; obtain ⟨go13, co13, eo13, gb13, gl13, cl13, HG13⟩ := Kd.R_form HO_4.out (by omega); (first | cases eo13 | (injection eo13 with ea_ en_ ec_; (first | subst ea_ | (injection ea_ with ea_; subst ea_)); subst ec_; clear en_)); have GB13 := Aside0.mk gb13; have GG13 := Aside0.mk HG13; clear gb13 gl13 HG13; obtain ⟨hx13_0, hf13_0⟩ := Kd.R_celln 0 HO_4.out (x5_1 : Int) p13 q13; replace p13 := eq_true p13; replace q13 := eq_true q13; obtain ⟨hy14_, hz14_⟩ := Kd.R_celln 0 HO_4.out (x5_1 : Int) (of_decide_eq_true tA) (of_decide_eq_true tA); have HP14 := Kd.R_putg HO_4.out (x5_1 : Int) t108) | ((with_reducible refine gate_store (t := 3) (p := 24) rfl ?_); refine store_event (t := 3) (p := 24) (v := ?vo_w15) (w1 := (wr.setCell ⟨go13, (x5_1 : Int).toNat, none⟩ (.int .i64 t108))) ?hg ?ho ?hn ?hr ?_; (case ho => rfl); (case hg => rfl); (case hn => rfl); (case hr => first | (go_simp; done) | (go_simp; rfl)); intro w15 hw; have hg : wr.grownBy w15 (some go13) := (by rw [hw]; exact HP14.2); have hp_ : Kd.R (Kd.int .i64) 3 w15 w.heap.size (fun k_ => some k_ ≠ (.slice (some ad107) t101.length co6 : Value).ownBlock) (.slice (some ⟨go13, 0, none⟩) x4_1.length co13) y109 := (by rw [hw, Ny109.out]; exact HP14.1); clear HP14; have n0_ := Aside0.mk (Kd.R_after (v := (.slice (some ⟨go13, 0, none⟩) x4_1.length co13)) (v1 := (.slice (some ⟨go13, 0, none⟩) x4_1.length co13)) (ok := (fun _ => True)) (by (with_reducible repeat (first | apply Kd.R_alloc | apply Kd.R_drewN | apply Kd.R_drew)); exact Kd.R_mono HO_3.out (fun _ hk => ⟨trivial, hk⟩)) hg (.inl rfl)); have n1_ := Aside0.mk (hp_); have n2_ := Aside0.mk ((by rw [hw]; exact below_set (HB.out) GB13.out : Below w.heap.size w w15)); clear HO_3; clear HO_4; clear HB; have HO_3 := n0_; have HO_4 := n1_; have HB := n2_; clear n0_ n1_ n2_; clear hg hw hp_))
        go_roundg k1
        case measure => have := HK1.out; omega
        case rel => exact ⟨(y109), (wrap64 (x5_1 + 1)), (by first | rfl | (simp; done) | (simp only [i64_w]; done) | (simp [*]; done)), H', ⟨by have := HK1.out; omega⟩, ⟨by (with_reducible repeat (first | apply Kd.R_alloc | apply Kd.R_drewN | apply Kd.R_drew)); exact Kd.R_mono HO_3.out (fun _ hk => hk.2)⟩, ⟨tR HO_4.out⟩, ⟨tB⟩⟩
       ·rw [if_neg c12] at H
        exact absurd H (by simp)
      ·rw [if_neg c10] at H
       exact absurd H (by simp)
     ·rw [if_neg c9] at H
      have c9b0 := decide_eq_false c9
      clear c9
      obtain rfl := Option.some.inj H
      go_wp2
      go_ret
      exact ⟨_, by first | rfl | (simp [errW_none, errW_some] <;> rfl) | (simp [*, errW_none, errW_some] <;> rfl), by (with_reducible repeat (first | apply Kd.R_alloc | apply Kd.R_drewN | apply Kd.R_drew)); exact Kd.R_mono HO_4.out (fun _ hk => trivial), tB⟩
  ·rw [if_neg c4] at H
   exact absurd H (by simp)
 ·rw [if_neg c3] at H
  exact absurd H (by simp)

/-! ### feature_Spectrum: function 50 -/
def feature_Spectrum.f (k : Nat) (l0 : List Int) : Option (List Int × Int) := (feature_possible.f (l0.length : Int)).bind fun t101 => (if t101 = true then ((feature_within.f l0 65536).bind fun t102 => (if t102 = true then ((feature_spectrum.f k l0).bind fun t103 => (some (t103, 0))) else (some (([] : List Int), 2)))) else (some (([] : List Int), 2)))
theorem feature_Spectrum.mono : ∀ a0 k, LeO (feature_Spectrum.f k a0) (feature_Spectrum.f (k + 1) a0) := by
 intro a0 k
 unfold feature_Spectrum.f
 repeat' first
   | (with_reducible exact feature_spectrum.mono _ _)
   | (with_reducible exact LeO.refl _)
   | (with_reducible exact LeO.none _)
   | (with_reducible refine LeO.ite ?_ ?_)
   | (with_reducible refine LeO.bind ?_ (fun _ => ?_))
   | exact feature_spectrum.mono _ _
   | exact LeO.none _
   | refine LeO.ite ?_ ?_
   | refine LeO.bind ?_ (fun _ => ?_)
set_option maxHeartbeats 8000000 in
set_option maxRecDepth 100000 in
theorem feature_Spectrum.calls (k : Nat) (A0 : Option Addr) (c0 : Nat) (l0 : List Int) (r1 : List Int) (r2 : Int) (w : World) (ht : Kd.C (Kd.int .i64) w (some ⟨0, 0, none⟩) 65 tabL) (hr0 : Kd.C (Kd.int .i64) w A0 l0.length l0) (hc0 : l0.length ≤ c0) (h : feature_Spectrum.f k l0 = some (r1, r2)) :
  Calls Tryd.prog 50 #[.slice A0 l0.length c0] w fun e w' => ∃ v0_ : Value, e = .returned (.tuple #[v0_, .int .i64 r2]) ∧ Kd.R (Kd.int .i64) 3 w' w.heap.size (fun _ => True) v0_ r1 ∧ Below w.heap.size w w' := by
 have HRT := Aside0.mk ht
 clear ht
 have HR0 := Aside0.mk hr0
 have HC0 := Aside0.mk hc0
 clear hr0 hc0
 have HB := Aside0.mk (Below.refl w.heap.size w)
 have H : ((feature_possible.f (l0.length : Int)).bind fun t101 => (if t101 = true then ((feature_within.f l0 65536).bind fun t102 => (if t102 = true then ((feature_spectrum.f k l0).bind fun t103 => (some (t103, 0))) else (some (([] : List Int), 2)))) else (some (([] : List Int), 2)))) = some (r1, r2) := h
 clear h
 replace H := Option.bind_eq_some_iff.mp H
 obtain ⟨t101, A20, H⟩ := H
 try dsimp only at H
 have A2 := Aside0.mk A20
 clear A20
 by_cases c3 : t101 = true
 ·subst c3
  have H1 : ((feature_within.f l0 65536).bind fun t102 => (if t102 = true then ((feature_spectrum.f k l0).bind fun t103 => (some (t103, 0))) else (some (([] : List Int), 2)))) = some (r1, r2) := by rw [if_pos rfl] at H; exact H
  clear H
  have H := H1
  clear H1
  replace H := Option.bind_eq_some_iff.mp H
  obtain ⟨t102, A40, H⟩ := H
  try dsimp only at H
  have A4 := Aside0.mk A40
  clear A40
  by_cases c5 : t102 = true
  ·subst c5
   have H1 : ((feature_spectrum.f k l0).bind fun t103 => (some (t103, 0))) = some (r1, r2) := by rw [if_pos rfl] at H; exact H
   clear H
   have H := H1
   clear H1
   replace H := Option.bind_eq_some_iff.mp H
   obtain ⟨t103, A60, H⟩ := H
   try dsimp only at H
   have A6 := Aside0.mk A60
   clear A60
   simp only [Option.some.injEq, Prod.mk.injEq] at H
   obtain ⟨rfl, rfl⟩ := H
   go_enter Tryd.func50, Tryd.ntmps50
   go_wp2_with (first | ((with_reducible refine gate_callee (f := 79) rfl ?_); refine goesL_ (some 6) rfl rfl Tryd.func79 (by kernel_rfl) rfl #[.int .i64 (l0.length : Int)] rfl tL ?_; (with_reducible refine (feature_possible.calls (l0.length : Int) true _ A2.out).mono ?_); rintro e w' ⟨rfl, ⟨nd, rfl⟩⟩; refine ⟨_, rfl, ?_⟩) | (go_at_call 80; (with_reducible refine (feature_within.calls _ _ l0 65536 true _ ?side1 ?side2 A4.out).mono ?_); (case side1 => exact tC HR0.out); (case side2 => exact HC0.out); rintro e w7 ⟨rfl, hb⟩; have n0_ := Aside0.mk (below_step tB hb); clear HB; have HB := n0_; clear n0_; (try clear hb); (try clear hb2); (try clear hk); (try clear hi)) | ((with_reducible refine gate_callee (f := 112) rfl ?_); refine goesL_ (some 14) rfl rfl Tryd.func112 (by kernel_rfl) rfl #[.slice A0 l0.length c0] rfl tL ?_; (with_reducible refine (feature_spectrum.calls k _ _ l0 t103 _ ?side3 ?side1 ?side2 A6.out).mono ?_); (case side1 => exact tC (Kd.C_below HR0.out HB.out)); (case side2 => exact HC0.out); (case side3 => exact tC (Kd.C_below HRT.out HB.out)); rintro e w8 ⟨v104, rfl, ho0, hb⟩; refine ⟨_, rfl, ?_⟩; have n0_ := Aside0.mk (Kd.R_lower ho0 (below_size tB)); have n1_ := Aside0.mk (below_step tB hb); clear HB; have HO105 := n0_; have HB := n1_; clear n0_ n1_; (try clear hb); (try clear hb2); (try clear hk); (try clear hi); (try clear ho0)))
   go_ret2
   exact ⟨_, by first | rfl | (simp [errW_none, errW_some] <;> rfl) | (simp [*, errW_none, errW_some] <;> rfl), tR HO105.out, tB⟩
  ·replace c5 := Bool.eq_false_iff.mpr c5
   subst c5
   have H1 : (some (([] : List Int), 2)) = some (r1, r2) := by rw [if_neg (show ¬ (false = true) by decide)] at H; exact H
   clear H
   have H := H1
   clear H1
   simp only [Option.some.injEq, Prod.mk.injEq] at H
   obtain ⟨rfl, rfl⟩ := H
   go_enter Tryd.func50, Tryd.ntmps50
   go_wp2_with (first | ((with_reducible refine gate_callee (f := 79) rfl ?_); refine goesL_ (some 6) rfl rfl Tryd.func79 (by kernel_rfl) rfl #[.int .i64 (l0.length : Int)] rfl tL ?_; (with_reducible refine (feature_possible.calls (l0.length : Int) true _ A2.out).mono ?_); rintro e w' ⟨rfl, ⟨nd, rfl⟩⟩; refine ⟨_, rfl, ?_⟩) | (go_at_call 80; (with_reducible refine (feature_within.calls _ _ l0 65536 false _ ?side1 ?side2 A4.out).mono ?_); (case side1 => exact tC HR0.out); (case side2 => exact HC0.out); rintro e w9 ⟨rfl, hb⟩; have n0_ := Aside0.mk (below_step tB hb); clear HB; have HB := n0_; clear n0_; (try clear hb); (try clear hb2); (try clear hk); (try clear hi)))
   go_ret2
   exact ⟨_, by first | rfl | (simp [errW_none, errW_some] <;> rfl) | (simp [*, errW_none, errW_some] <;> rfl), by first | exact Kd.R_nil _ _ _ _ _ | exact Kd.N_nil _ _ _ _ _ | exact Kd.V_nil _ _ _ _ _ | exact Kd.Q_nil _ _ _ _ _ | exact Kd.S_nil _ _ _ _ _, tB⟩
 ·replace c3 := Bool.eq_false_iff.mpr c3
  subst c3
  have H1 : (some (([] : List Int), 2)) = some (r1, r2) := by rw [if_neg (show ¬ (false = true) by decide)] at H; exact H
  clear H
  have H := H1
  clear H1
  simp only [Option.some.injEq, Prod.mk.injEq] at H
  obtain ⟨rfl, rfl⟩ := H
  go_enter Tryd.func50, Tryd.ntmps50
  go_wp2_with (first | ((with_reducible refine gate_callee (f := 79) rfl ?_); refine goesL_ (some 6) rfl rfl Tryd.func79 (by kernel_rfl) rfl #[.int .i64 (l0.length : Int)] rfl tL ?_; (with_reducible refine (feature_possible.calls (l0.length : Int) false _ A2.out).mono ?_); rintro e w' ⟨rfl, ⟨nd, rfl⟩⟩; refine ⟨_, rfl, ?_⟩))
  go_ret2
  exact ⟨_, by first | rfl | (simp [errW_none, errW_some] <;> rfl) | (simp [*, errW_none, errW_some] <;> rfl), by first | exact Kd.R_nil _ _ _ _ _ | exact Kd.N_nil _ _ _ _ _ | exact Kd.V_nil _ _ _ _ _ | exact Kd.Q_nil _ _ _ _ _ | exact Kd.S_nil _ _ _ _ _, tB⟩

end Go.Proofs.YtdlbmbijobcljaaDoor.X

namespace Go.Proofs.YtdlbmbijobcljaaDoor.Pure
open Go.RowKit Go.Proofs.YtdlbmbijobcljaaDoor.X Go.Proofs.YtdlbmbijobcljaaDoorW.PrintWords Go.Proofs.YtdlbmbijobcljaaDoorW.PrintLast
set_option linter.unusedVariables false
set_option linter.unusedSimpArgs false
set_option linter.unusedSectionVars false
theorem rounded_eq : ∀ (k : Nat) (x d : Int), feature_rounded.f k x d = earshotref02_Round.f k x d := by
  intro k
  induction k with
  | zero => intro x d; rfl
  | succ k ih =>
    intro x d
    simp only [feature_rounded.f, earshotref02_Round.f, ih]
theorem rounded_ev (x d : Int) (hx0 : -4611686018427387903 ≤ x) (hx1 : x ≤ 4611686018427387903) (hd : 0 < d) (hd1 : d ≤ 1099511627776) (hs0 : -(2 * x) + d ≤ 9223372036854775807) (hs : 2 * x + d ≤ 9223372036854775807) : Ev (fun k => feature_rounded.f k x d) (rnd x d) :=
  Ev.congr (fun k => rounded_eq k x d) (round_ev x d hx0 hx1 hd hd1 hs0 hs)
/-- The first j numbers rounded, the others as in t. -/
def spList (s t : List Int) (j : Nat) : List Int := (List.range j).map (fun (i : Nat) => rnd (rd s (i : Int)) 16384) ++ t.drop j
theorem spList_length (s t : List Int) (j : Nat) (h : j ≤ t.length) : (spList s t j).length = t.length := by simp [spList]; omega
theorem spList_set (s t : List Int) (j : Nat) (h : j < t.length) : (spList s t j).set j (rnd (rd s (j : Int)) 16384) = spList s t (j + 1) := by
  unfold spList
  rw [List.range_succ, List.map_append, List.set_append_right _ _ (by simp)]
  simp only [List.length_map, List.length_range, Nat.sub_self, List.map_cons, List.map_nil, List.append_assoc]
  congr 1
  rw [List.drop_eq_getElem_cons h]
  rfl
theorem spList_rd (s : List Int) (j : Nat) (h : j < s.length) : rd (spList s s j) (j : Int) = rd s (j : Int) := by
  unfold spList
  rw [rd_nat, rd_nat, List.getD_eq_getElem?_getD, List.getElem?_append_right (by simp), List.getD_eq_getElem?_getD]
  simp
theorem spList_all (s t : List Int) (h : t.length = s.length) : spList s t s.length = spList s s s.length := by
  unfold spList
  rw [List.drop_of_length_le (by omega), List.drop_of_length_le (Nat.le_refl _)]
section
variable (s : List Int) (hs : ∀ x ∈ s, -1099511627776 ≤ x ∧ x ≤ 1099511627776) (hl : s.length ≤ 4611686018427387903)
include hs hl
theorem sp_loop : ∀ r j : Nat, j + r = s.length → Ev (fun k => feature_spectrum.l0 k (spList s s j) (s.length : Int) (j : Int)) (spList s s s.length) := by
  intro r
  induction r with
  | zero =>
    intro j hj
    refine Ev.step (f := fun _ => some (spList s s s.length)) (fun k => ?_) (Ev.now _)
    simp only [feature_spectrum.l0]
    rw [if_neg (by omega), show j = s.length by omega]
  | succ r ih =>
    intro j hj
    have h1 := ih (j + 1) (by omega)
    rw [← spList_set s s j (by omega)] at h1
    have hb := rd_bound s 1099511627776 (by omega) hs (j : Int)
    refine Ev.step (f := fun k => (feature_rounded.f k (rd s (j : Int)) 16384).bind fun t105 => feature_spectrum.l0 k ((spList s s j).set j t105) (s.length : Int) ((j + 1 : Nat) : Int)) (fun k => ?_) (Ev.bind (rounded_ev _ _ (by omega) (by omega) (by omega) (by omega) (by omega) (by omega)) h1)
    simp only [feature_spectrum.l0]
    rw [if_pos (by omega), if_pos (by omega), if_pos (by rw [spList_length _ _ _ (by omega)]; omega), spList_rd s j (by omega), w64 (by omega) (by omega), Int.toNat_natCast]
    rfl
theorem sp_loop' (t : List Int) (ht : t.length = s.length) : ∀ r j : Nat, j + r = s.length → Ev (fun k => earshotref03_Spectrum.l0 k s (spList s t j) (j : Int)) (spList s s s.length) := by
  intro r
  induction r with
  | zero =>
    intro j hj
    refine Ev.step (f := fun _ => some (spList s s s.length)) (fun k => ?_) (Ev.now _)
    simp only [earshotref03_Spectrum.l0]
    rw [if_neg (by omega), show j = s.length by omega, spList_all s t ht]
  | succ r ih =>
    intro j hj
    have h1 := ih (j + 1) (by omega)
    rw [← spList_set s t j (by omega)] at h1
    have hb := rd_bound s 1099511627776 (by omega) hs (j : Int)
    refine Ev.step (f := fun k => (earshotref02_Round.f k (rd s (j : Int)) 16384).bind fun t108 => earshotref03_Spectrum.l0 k s ((spList s t j).set j t108) ((j + 1 : Nat) : Int)) (fun k => ?_) (Ev.bind (round_ev _ _ (by omega) (by omega) (by omega) (by omega) (by omega) (by omega)) h1)
    simp only [earshotref03_Spectrum.l0]
    rw [if_pos (by omega), if_pos (by omega)]
    congr 1
    funext t108
    rw [if_pos (by rw [spList_length _ _ _ (by omega)]; omega), w64 (by omega) (by omega), Int.toNat_natCast]
    rfl
end
theorem trList_bound (l : List Int) (n : Nat) (hn : n ≤ 64) (h : ∀ x ∈ l, -65536 ≤ x ∧ x ≤ 65536) : ∀ x ∈ trList l n n, -1099511627776 ≤ x ∧ x ≤ 1099511627776 := by
  intro x hx
  simp only [trList, Nat.sub_self, List.replicate_zero, List.append_nil, List.mem_map, List.mem_range] at hx
  obtain ⟨j, hj, rfl⟩ := hx
  have := trSum_bound l h ((64 : Int) / n) j n
  unfold trAt
  omega
section
variable (l : List Int) (n : Nat) (hn : isLen n = true) (hl : l.length = n) (h : ∀ x ∈ l, -65536 ≤ x ∧ x ≤ 65536)
include hn hl h
theorem spectrum_ev : Ev (fun k => feature_spectrum.f k l) (spList (trList l n n) (trList l n n) n) := by
  obtain ⟨n0, n1, n2, n3, n4⟩ := isLen_dvd n hn
  have hL := trList_length l n n (Nat.le_refl _)
  have e := sp_loop (trList l n n) (trList_bound l n n1 h) (by omega) n 0 (by omega)
  rw [hL] at e
  refine Ev.congr (f := fun k => (feature_transform.f k l).bind fun t101 => feature_spectrum.l0 k t101 (t101.length : Int) 0) (fun k => rfl) (Ev.bind (transform_ev l n hn hl h) ?_)
  rw [hL]
  exact e
theorem ref_spectrum_ev : Ev (fun k => earshotref03_Spectrum.f k l) (spList (trList l n n) (trList l n n) n) := by
  obtain ⟨n0, n1, n2, n3, n4⟩ := isLen_dvd n hn
  have hL := trList_length l n n (Nat.le_refl _)
  have e := sp_loop' (trList l n n) (trList_bound l n n1 h) (by omega) (List.replicate n 0) (by simp [hL]) n 0 (by omega)
  rw [hL] at e
  refine Ev.congr (f := fun k => (earshotref03_Transform.f k l).bind fun t101 => (if 0 ≤ (t101.length : Int) then (if ((t101.length : Int) : Int).toNat ≤ 35184372088832 then (earshotref03_Spectrum.l0 k t101 (List.replicate ((t101.length : Int) : Int).toNat 0) 0) else (none)) else (none))) (fun k => rfl) (Ev.bind (ref_transform_ev l n hn hl h) ?_)
  refine Ev.congr (fun k => ?_) e
  rw [hL, if_pos (by omega), if_pos (by omega), Int.toNat_natCast]
  rfl
theorem Spectrum_ok : Ev (fun k => feature_Spectrum.f k l) (spList (trList l n n) (trList l n n) n, 0) := by
  refine Ev.congr (f := fun k => (feature_spectrum.f k l).bind fun t103 => some (t103, 0)) (fun k => ?_) (Ev.bind (spectrum_ev l n hn hl h) (Ev.now _))
  unfold feature_Spectrum.f
  rw [hl, possible_at, hn, Option.bind_some, if_pos rfl, within_ok l n hn hl h, Option.bind_some, if_pos rfl]
end
theorem Spectrum_bad (l : List Int) (h : isLen l.length = false ∨ allIn l (-65536) 65536 = false) (k : Nat) : feature_Spectrum.f k l = some ([], 2) := by
  unfold feature_Spectrum.f
  rw [possible_at, Option.bind_some]
  cases hp : isLen l.length with
  | false => rw [if_neg (by simp)]
  | true =>
    rcases h with h | h
    · rw [hp] at h; cases h
    · rw [if_pos rfl, within_at _ _ (by omega) (by omega), h, Option.bind_some]
      rfl
end Go.Proofs.YtdlbmbijobcljaaDoor.Pure

namespace Go.Proofs.YtdlbmbijobcljaaDoor.X
open Go.RowKit Go.Proofs.YtdlbmbijobcljaaDoorW.PrintWords Go.Proofs.YtdlbmbijobcljaaDoorW.PrintLast Go.Proofs.YtdlbmbijobcljaaDoorW.PrintMore
attribute [local go_sem] max2_int min2_int max_two min_two max_three min_three max_four min_four   -- for this text's walks alone
set_option linter.unusedVariables false
set_option linter.unusedSimpArgs false
/-! ### earshotref03_mean: function 116 -/
mutual
def earshotref03_mean.l0 : Nat → List (List Int) → List Int → Int → Option (List Int)
 | 0, _, _, _ => none
 | k + 1, x0, x3, x4 => if x4 < (x3.length : Int) then (earshotref03_mean.l1 k x0 x3 x4 0) else (some x3)
def earshotref03_mean.l1 : Nat → List (List Int) → List Int → Int → Int → Option (List Int)
 | 0, _, _, _, _ => none
 | k + 1, x0, x3, x4, x5 => if x5 < (x0.length : Int) then (if 0 ≤ x4 then (if x4 < (x3.length : Int) then (if 0 ≤ x5 then (if x4 < ((rd_L2 x0 x5).length : Int) then (earshotref03_mean.l1 k x0 (x3.set (x4 : Int).toNat (wrap64 ((rd x3 x4) + (rd (rd_L2 x0 x5) x4)))) x4 (wrap64 (x5 + 1))) else (none)) else (none)) else (none)) else (none)) else (if 0 ≤ x4 then (if x4 < (x3.length : Int) then ((earshotref02_Round.f k (rd x3 x4) (x0.length : Int)).bind fun t110 => (earshotref03_mean.l0 k x0 (x3.set (x4 : Int).toNat t110) (wrap64 (x4 + 1)))) else (none)) else (none))
end
def earshotref03_mean.f (k : Nat) (l0 : List (List Int)) : Option (List Int) := if 0 < (l0.length : Int) then (if 0 ≤ ((rd_L2 l0 0).length : Int) then (if (((rd_L2 l0 0).length : Int) : Int).toNat ≤ 35184372088832 then (earshotref03_mean.l0 k l0 (List.replicate (((rd_L2 l0 0).length : Int) : Int).toNat 0) 0) else (none)) else (none)) else (none)
theorem earshotref03_mean.mono_l : ∀ k, (∀ y0 y1 y2, LeO (earshotref03_mean.l0 k y0 y1 y2) (earshotref03_mean.l0 (k + 1) y0 y1 y2)) ∧ (∀ y0 y1 y2 y3, LeO (earshotref03_mean.l1 k y0 y1 y2 y3) (earshotref03_mean.l1 (k + 1) y0 y1 y2 y3))
 | 0 => ⟨fun _ _ _ r h => by simp [earshotref03_mean.l0] at h, fun _ _ _ _ r h => by simp [earshotref03_mean.l1] at h⟩
 | k + 1 => by
  obtain ⟨ih0, ih1⟩ := earshotref03_mean.mono_l k
  refine ⟨?_, ?_⟩
  ·intro y0 y1 y2
   unfold earshotref03_mean.l0
   repeat' first
   | (with_reducible exact ih0 _ _ _)
   | (with_reducible exact ih1 _ _ _ _)
   | (with_reducible exact earshotref02_Round.mono _ _ _)
   | (with_reducible exact LeO.refl _)
   | (with_reducible exact LeO.none _)
   | (with_reducible refine LeO.ite ?_ ?_)
   | (with_reducible refine LeO.bind ?_ (fun _ => ?_))
   | exact ih0 _ _ _
   | exact ih1 _ _ _ _
   | exact earshotref02_Round.mono _ _ _
   | exact LeO.none _
   | refine LeO.ite ?_ ?_
   | refine LeO.bind ?_ (fun _ => ?_)
  ·intro y0 y1 y2 y3
   unfold earshotref03_mean.l1
   repeat' first
   | (with_reducible exact ih0 _ _ _)
   | (with_reducible exact ih1 _ _ _ _)
   | (with_reducible exact earshotref02_Round.mono _ _ _)
   | (with_reducible exact LeO.refl _)
   | (with_reducible exact LeO.none _)
   | (with_reducible refine LeO.ite ?_ ?_)
   | (with_reducible refine LeO.bind ?_ (fun _ => ?_))
   | exact ih0 _ _ _
   | exact ih1 _ _ _ _
   | exact earshotref02_Round.mono _ _ _
   | exact LeO.none _
   | refine LeO.ite ?_ ?_
   | refine LeO.bind ?_ (fun _ => ?_)
theorem earshotref03_mean.mono : ∀ a0 k, LeO (earshotref03_mean.f k a0) (earshotref03_mean.f (k + 1) a0) := by
 intro a0 k
 obtain ⟨ih0, ih1⟩ := earshotref03_mean.mono_l k
 unfold earshotref03_mean.f
 repeat' first
   | (with_reducible exact ih0 _ _ _)
   | (with_reducible exact ih1 _ _ _ _)
   | (with_reducible exact earshotref02_Round.mono _ _ _)
   | (with_reducible exact LeO.refl _)
   | (with_reducible exact LeO.none _)
   | (with_reducible refine LeO.ite ?_ ?_)
   | (with_reducible refine LeO.bind ?_ (fun _ => ?_))
   | exact ih0 _ _ _
   | exact ih1 _ _ _ _
   | exact earshotref02_Round.mono _ _ _
   | exact LeO.none _
   | refine LeO.ite ?_ ?_
   | refine LeO.bind ?_ (fun _ => ?_)
def earshotref03_mean.T8 : Bool × List (List Nat × List Nat) := (true, [([], []), ([], []), ([], []), ([], []), ([2, 3], [2, 3]), ([4], [4]), ([], []), ([], []), ([6, 7], [6, 7]), ([8], [8]), ([], []), ([9, 10], [9, 10]), ([11], [11]), ([5, 12], [5, 12]), ([0, 1, 0, 1, 2, 3, 4, 5, 6, 7, 8, 9, 10, 11, 12, 13], [0, 1]), ([14, 13, 0, 1, 2, 3, 4, 5, 6, 7, 8, 9, 10, 11, 12, 13], [13, 14])])
def earshotref03_mean.B8 : List Nat := [0, 0, 0, 0, 12, 28, 0, 0, 192, 448, 0, 1984, 4032, 8188, 16383, 32767]
theorem earshotref03_mean.tab8 : rtab .any (opsOf Tryd.f116 8) = earshotref03_mean.T8 := by kernel_rfl
theorem earshotref03_mean.bits8 : waitsOk earshotref03_mean.T8.2 earshotref03_mean.B8 = true := by kernel_rfl
set_option maxHeartbeats 8000000 in
set_option maxRecDepth 100000 in
theorem earshotref03_mean.calls (k : Nat) (A0 : Option Addr) (c0 : Nat) (l0 : List (List Int)) (r : List Int) (w : World) (hr0 : Kd.C (Kd.slice 3 (Kd.int .i64)) w A0 l0.length l0) (hc0 : l0.length ≤ c0) (h : earshotref03_mean.f k l0 = some r) :
  Calls Tryd.prog 116 #[.slice A0 l0.length c0] w fun e w' => ∃ v0_ : Value, e = .returned (v0_) ∧ Kd.R (Kd.int .i64) 3 w' w.heap.size (fun _ => True) v0_ r ∧ Below w.heap.size w w' := by
 have HR0 := Aside0.mk hr0
 have HC0 := Aside0.mk hc0
 clear hr0 hc0
 have HB := Aside0.mk (Below.refl w.heap.size w)
 have H : (if 0 < (l0.length : Int) then (if 0 ≤ ((rd_L2 l0 0).length : Int) then (if (((rd_L2 l0 0).length : Int) : Int).toNat ≤ 35184372088832 then (earshotref03_mean.l0 k l0 (List.replicate (((rd_L2 l0 0).length : Int) : Int).toNat 0) 0) else (none)) else (none)) else (none)) = some r := h
 clear h
 by_cases c2 : 0 < (l0.length : Int)
 ·rw [if_pos c2] at H
  have c2b0 := decide_eq_true c2
  have c2b1 : decide (0 < l0.length) = true := decide_eq_true (by omega)
  clear c2
  by_cases c3 : 0 ≤ ((rd_L2 l0 0).length : Int)
  ·rw [if_pos c3] at H
   have c3b0 := eq_true c3
   have c3b1 := decide_eq_true c3
   clear c3
   by_cases c4 : (((rd_L2 l0 0).length : Int) : Int).toNat ≤ 35184372088832
   ·rw [if_pos c4] at H
    have c4b0 := eq_true c4
    have c4b1 := decide_eq_true c4
    clear c4
    obtain ⟨y102, hy102⟩ : ∃ y_ : List Int, y_ = (List.replicate (((rd_L2 l0 0).length : Int) : Int).toNat 0) := ⟨_, rfl⟩
    replace H : (earshotref03_mean.l0 k l0 y102 0) = some r := by first | (rw [hy102]; with_reducible exact H) | (have H2_ := (Option.bind_some _ _).symm.trans H; rw [hy102]; with_reducible exact H2_) | (have H2_ := (Option.bind_some _ _).symm.trans H; with_reducible exact H2_) | with_reducible exact H | (rw [hy102]; exact H) | exact H
    have Ny102 := Aside0.mk hy102
    clear hy102
    have H' := Aside0.mk H
    clear H
    have p101 : 0 ≤ (0 : Int) := (by omega)
    have q101 : 0 < (l0.length : Int) := of_decide_eq_true tA
    obtain ⟨ad101, A101_0, c101_0, e101, hx101_0, hl101_0, hi101_0⟩ := at_L2 HR0.out 0 p101 q101
    cases e101
    have qi101 : (0 < l0.length) = True := eq_true (by omega)
    (try rw [show ((0 : Int)).toNat = 0 from rfl] at hx101_0)
    (try rw [Addr.add_zero'] at hx101_0)
    have HR101_0 := Aside0.mk hi101_0
    have HC101_0 := Aside0.mk hl101_0
    clear hi101_0 hl101_0
    replace p101 := eq_true p101
    replace q101 := eq_true q101
    go_enter Tryd.func116, Tryd.ntmps116
    go_wp2_with (first | ((with_reducible refine gate_dst (N := 10) rfl ?_); refine Kd.R_make (Kd.int .i64) _ 3 rfl (N := 10) rfl 22 _ _ rfl ((rd_L2 l0 0).length : Int) rfl rfl Tryd.underlying22 (.int .i64 0) 8 info3 rfl (by decide) (by omega) 0 (ok := fun _ => True) (okp := fun _ => True) rfl (fun _ hk => hk) trivial (of_decide_eq_true tA) (Nat.le_trans (Nat.mul_le_mul_right _ (of_decide_eq_true tA : ((rd_L2 l0 0).length : Int).toNat ≤ 35184372088832)) (by omega)) (Below.refl _ _) (Nat.le_refl _) ?_; intro v103 w5 ho6 hb hg_ hnew_; clear hg_ hnew_; (first | rw [← Ny102.out] at ho6 | (simp only [Int.reduceToNat] at ho6; rw [← Ny102.out] at ho6)); have n0_ := Aside0.mk (Kd.R_lower ho6 (below_size tB)); have n1_ := Aside0.mk (below_step tB hb); clear HB; have HO104 := n0_; have HB := n1_; clear n0_ n1_; clear hb ho6))
    go_loopg [4] k (fun kq v4 w' => ∃ (x3_1 : List Int) (x4_1 : Int), v4 = .int .i64 x4_1 ∧ Aside0 (earshotref03_mean.l0 kq l0 x3_1 x4_1 = some r) ∧ Aside0 (kq ≤ k) ∧ Aside0 (Kd.R (Kd.int .i64) 3 w' w.heap.size (fun _ => True) v103 x3_1) ∧ Aside0 (Below w.heap.size w w'))
    case atStart => exact ⟨(y102), (0), (by first | rfl | (simp; done) | (simp only [i64_w]; done) | (simp [*]; done)), H', ⟨Nat.le_refl _⟩, ⟨tR HO104.out⟩, ⟨tB⟩⟩
    case round =>
     clear H'
     try clear c1
     try clear p1
     try clear q1
     try clear hx1
     try clear qi1
     try clear c2
     try clear c2b0
     try clear c2b1
     try clear p2
     try clear c3
     try clear c3b0
     try clear c3b1
     try clear c4
     try clear c4b0
     try clear c4b1
     try clear hx101_0
     try clear p101
     try clear q101
     obtain ⟨x3_1, x4_1, rfl, HA, HK1, HO_3, HB⟩ := hrel
     cases gk with
     | zero => exact absurd HA.out (by simp [earshotref03_mean.l0])
     | succ k1 =>
      have H := HA.out
      clear HA
      simp only [earshotref03_mean.l0] at H
      by_cases c7 : x4_1 < (x3_1.length : Int)
      ·rw [if_pos c7] at H
       have c7b0 := decide_eq_true c7
       clear c7
       have H' := Aside0.mk H
       clear H
       obtain ⟨Ao8, co8, eo8⟩ := Kd.R_slice HO_3.out
       subst eo8
       go_wp2
       go_loopg [5] k1 (fun kq v5 w' => ∃ (x3_2 : List Int) (x5_2 : Int), v5 = .int .i64 x5_2 ∧ Aside0 (earshotref03_mean.l1 kq l0 x3_2 x4_1 x5_2 = some r) ∧ Aside0 (kq ≤ k1) ∧ Aside0 (Kd.R (Kd.int .i64) 3 w' w.heap.size (fun _ => True) (.slice Ao8 x3_1.length co8) x3_2) ∧ Aside0 (Below w.heap.size w w'))
       case atStart => exact ⟨(x3_1), (0), (by first | rfl | (simp; done) | (simp only [i64_w]; done) | (simp [*]; done)), H', ⟨Nat.le_refl _⟩, ⟨tR HO_3.out⟩, ⟨tB⟩⟩
       case round =>
        clear H'
        try clear c1
        try clear p1
        try clear q1
        try clear hx1
        try clear qi1
        try clear c2
        try clear c2b0
        try clear c2b1
        try clear p2
        try clear c3
        try clear c3b0
        try clear c3b1
        try clear c4
        try clear c4b0
        try clear c4b1
        try clear c7
        try clear c7b0
        try clear hx101_0
        try clear p1
        try clear p101
        try clear p2
        try clear q1
        try clear q101
        obtain ⟨x3_2, x5_2, rfl, HA, HK2, HO_3, HB⟩ := hrel
        have hl3_2 := (Kd.R_reads' HO_3.out).1
        rw [hl3_2] at HO_3
        (try simp only [hl3_2])
        cases gk with
        | zero => exact absurd HA.out (by simp [earshotref03_mean.l1])
        | succ k2 =>
         have H := HA.out
         clear HA
         simp only [earshotref03_mean.l1] at H
         by_cases c9 : x5_2 < (l0.length : Int)
         ·rw [if_pos c9] at H
          have c9b0 := decide_eq_true c9
          (try simp only [hl3_2] at c9b0)
          clear c9
          by_cases c10 : 0 ≤ x4_1
          ·rw [if_pos c10] at H
           have c10b0 := decide_eq_true c10
           clear c10
           by_cases c11 : x4_1 < (x3_2.length : Int)
           ·rw [if_pos c11] at H
            have c11b0 := decide_eq_true c11
            (try simp only [hl3_2] at c11b0)
            clear c11
            by_cases c12 : 0 ≤ x5_2
            ·rw [if_pos c12] at H
             have c12b0 := decide_eq_true c12
             clear c12
             by_cases c13 : x4_1 < ((rd_L2 l0 x5_2).length : Int)
             ·rw [if_pos c13] at H
              have c13b0 := decide_eq_true c13
              (try simp only [hl3_2] at c13b0)
              clear c13
              obtain ⟨y108, hy108⟩ : ∃ y_ : List Int, y_ = (x3_2.set (x4_1 : Int).toNat (wrap64 ((rd x3_2 x4_1) + (rd (rd_L2 l0 x5_2) x4_1)))) := ⟨_, rfl⟩
              replace H : (earshotref03_mean.l1 k2 l0 y108 x4_1 (wrap64 (x5_2 + 1))) = some r := by first | (rw [hy108]; with_reducible exact H) | (have H2_ := (Option.bind_some _ _).symm.trans H; rw [hy108]; with_reducible exact H2_) | (have H2_ := (Option.bind_some _ _).symm.trans H; with_reducible exact H2_) | with_reducible exact H | (rw [hy108]; exact H) | exact H
              have Ny108 := Aside0.mk hy108
              clear hy108
              have H' := Aside0.mk H
              clear H
              try go_wp2
              have n0_ := Aside0.mk (Kd.R_drew HO_3.out)
              have n1_ := Aside0.mk (below_drew1 HB.out)
              clear HO_3
              clear HB
              have HO_3 := n0_
              have HB := n1_
              clear n0_ n1_
              have p105 : 0 ≤ (x4_1 : Int) := of_decide_eq_true tA
              have q105 : x4_1 < (x3_2.length : Int) := of_decide_eq_true tA
              obtain ⟨ad105, e105, hx105_0⟩ := Kd.at_int (Kd.R_reads' HO_3.out).2.2 x4_1 p105 q105
              cases e105
              replace p105 := eq_true p105
              replace q105 := eq_true q105
              have p106 : 0 ≤ (x5_2 : Int) := of_decide_eq_true tA
              have q106 : x5_2 < (l0.length : Int) := of_decide_eq_true tA
              obtain ⟨ad106, A106_0, c106_0, e106, hx106_0, hl106_0, hi106_0⟩ := at_L2 HR0.out x5_2 p106 q106
              have hw106_0 := hx106_0
              obtain rfl : ad101 = ad106 := (by injection e106)
              replace hx106_0 := (HB.out.cell (World.block_lt_of_cell? w _ hx106_0)).trans hx106_0
              have HR106_0 := Aside0.mk hi106_0
              have HC106_0 := Aside0.mk hl106_0
              clear hi106_0 hl106_0
              replace p106 := eq_true p106
              replace q106 := eq_true q106
              have p107 : 0 ≤ (x4_1 : Int) := of_decide_eq_true tA
              have q107 : x4_1 < ((rd_L2 l0 x5_2).length : Int) := of_decide_eq_true tA
              obtain ⟨ad107, e107, hx107_0⟩ := Kd.at_int HR106_0.out x4_1 p107 q107
              have hw107_0 := hx107_0
              cases e107
              replace hx107_0 := (HB.out.cell (World.block_lt_of_cell? w _ hx107_0)).trans hx107_0
              replace p107 := eq_true p107
              replace q107 := eq_true q107
              have p14 : 0 ≤ (x4_1 : Int) := of_decide_eq_true tA
              have q14 : (x4_1 : Int) < ((x3_2.length : Int) : Int) := of_decide_eq_true tA
              obtain ⟨go14, co14, eo14, gb14, gl14, cl14, HG14⟩ := Kd.R_form HO_3.out (by omega)
              (first | cases eo14 | (injection eo14 with ea_ en_ ec_; (first | subst ea_ | (injection ea_ with ea_; subst ea_)); subst ec_; clear en_))
              have GB14 := Aside0.mk gb14
              have GG14 := Aside0.mk HG14
              clear gb14 gl14 HG14
              (first | simp only [add_plain] at hx105_0 | skip)
              obtain ⟨hx14_0, hf14_0⟩ := Kd.R_celln 0 HO_3.out (x4_1 : Int) p14 q14
              replace p14 := eq_true p14
              replace q14 := eq_true q14
              have HP16 := Kd.R_putn HO_3.out (x4_1 : Int) (wrap64 ((rd x3_2 x4_1) + (rd (rd_L2 l0 x5_2) x4_1)))
              rw [← Ny108.out] at HP16
              have HQ16 := Aside0.mk HP16
              clear HP16
              refine start_ (n := 16) (S := fun w' => w'.cell? ⟨go14, (x4_1).toNat, none⟩ = some (.int .i64 (rd x3_2 x4_1)) ∧ w'.cell? (ad101.add (x5_2).toNat) = some (.slice (some ad107) (rd_L2 l0 x5_2).length c106_0) ∧ w'.cell? (ad107.add (x4_1).toNat) = some (.int .i64 (rd (rd_L2 l0 x5_2) x4_1))) (ds := [15]) #[false, false, false, false, false, false, false, false, false, false, false, false, false, false, false, false] (by kernel_rfl) rfl rfl ⟨hx105_0, ((HB.out.cell (World.block_lt_of_cell? w _ hw106_0)).trans hw106_0), ((HB.out.cell (World.block_lt_of_cell? w _ hw107_0)).trans hw107_0)⟩ (fun hHeld => ?_); refine with_tabW earshotref03_mean.tab8 earshotref03_mean.bits8 (fun HT_ HW_ => ?_)
              generalize wr.drew = w15 at HO_3 HB GG14 HQ16 HR106_0 hf14_0 hx105_0 hx106_0 hx107_0 hx14_0 hHeld ⊢
              refine pI 0 (some 23) (bm 1 16) HT_.out ?_
              refine pI 1 (some 24) (bm 2 16) HT_.out ?_
              refine pI 2 (some 25) (bm 3 16) HT_.out ?_
              refine pI 3 (some 26) (bm 4 16) HT_.out ?_
              refine pI 4 (some 27) (bm 5 16) HT_.out ?_
              refine pure_ (i := 6) (N := some 29) (v := ?_) (a' := ?_) #[true, true, true, true, true, false, true, false, false, false, false, false, false, false, false, false] rfl rfl (any_of HT_.out (by kernel_rfl)) (fun _ _ _ h => h) (Or.inl ⟨by rfl, ?_⟩) ?_ ?_
              rotate_left
              ·intro w'
               go_simp
               with_reducible rfl
              rotate_left
              ·simp only [Act.put, List.setIfInBounds_toArray, List.set_cons_zero, List.set_cons_succ, i64_w, i32_w]
               rfl
              refine pure_ (i := 7) (N := some 30) (v := ?_) (a' := ?_) #[true, true, true, true, true, false, true, true, false, false, false, false, false, false, false, false] rfl rfl (any_of HT_.out (by kernel_rfl)) (fun _ _ _ h => h) (Or.inl ⟨by rfl, ?_⟩) ?_ ?_
              rotate_left
              ·intro w'
               go_simp
               with_reducible rfl
              rotate_left
              ·simp only [Act.put, List.setIfInBounds_toArray, List.set_cons_zero, List.set_cons_succ, i64_w, i32_w]
               rfl
              refine pure_ (i := 8) (N := some 31) (v := ?_) (a' := ?_) #[true, true, true, true, true, false, true, true, true, false, false, false, false, false, false, false] rfl rfl (any_of HT_.out (by kernel_rfl)) (fun _ _ _ h => h) (Or.inl ⟨by rfl, ?_⟩) ?_ ?_
              rotate_left
              ·intro w'
               go_simp
               with_reducible rfl
              rotate_left
              ·simp only [Act.put, List.setIfInBounds_toArray, List.set_cons_zero, List.set_cons_succ, i64_w, i32_w]
               rfl
              refine pure_ (i := 10) (N := some 33) (v := ?_) (a' := ?_) #[true, true, true, true, true, false, true, true, true, false, true, false, false, false, false, false] rfl rfl (any_of HT_.out (by kernel_rfl)) (fun _ _ _ h => h) (Or.inl ⟨by rfl, ?_⟩) ?_ ?_
              rotate_left
              ·intro w'
               go_simp
               with_reducible rfl
              rotate_left
              ·simp only [Act.put, List.setIfInBounds_toArray, List.set_cons_zero, List.set_cons_succ, i64_w, i32_w]
               rfl
              refine take_ (i := 5) (N := some 28) (v := ?_) (a' := ?_) #[true, true, true, true, true, true, true, true, true, false, true, false, false, false, false, false] rfl rfl (take_ofW HT_.out HW_.out (by kernel_rfl)) (fun _ _ _ h => h) (Or.inl ⟨by rfl, ?_⟩) hHeld ?_ ?_
              rotate_left
              ·rintro w' ⟨s0, s1, s2⟩
               go_simp
               with_reducible rfl
              rotate_left
              ·simp only [Act.put, List.setIfInBounds_toArray, List.set_cons_zero, List.set_cons_succ, i64_w, i32_w]
               rfl
              refine tk3 9 (some 32) (bm 11 16) HT_.out HW_.out hHeld ?_
              refine pI 11 (some 34) (bm 12 16) HT_.out ?_
              refine tk3 12 (some 35) (bm 13 16) HT_.out HW_.out hHeld ?_
              refine pI 13 (some 36) (bm 14 16) HT_.out ?_
              refine pI 14 (some 37) (bm 15 16) HT_.out ?_
              refine last_ (i := 15) (N := none) #[true, true, true, true, true, true, true, true, true, true, true, true, true, true, true, true] rfl rfl (one_of HT_.out (by kernel_rfl)) (by decide) (fun K hK => ?_)
              refine skip_ (w1 := ?_) (by rfl) rfl ?_ ?_
              rotate_left
              ·go_simp
               rfl
              refine hK.out _ _ ?_
              clear hK K
              refine done_ (done_of HT_.out (by kernel_rfl)) ?_
              try go_wp2
              (try simp only [← hl3_2])
              go_roundg k2
              case measure => have := HK1.out; have := HK2.out; omega
              case rel => exact ⟨(y108), (wrap64 (x5_2 + 1)), (by first | rfl | (simp; done) | (simp only [i64_w]; done) | (simp [*]; done)), H', ⟨by have := HK1.out; have := HK2.out; omega⟩, ⟨by (try simp only [hl3_2]); exact tR HQ16.out⟩, ⟨by repeat (first | (with_reducible first | exact HB.out | apply below_alloc | apply pw_below_drewN | apply below_drew1 | refine below_set ?_ GB14.out) | exact HB.out)⟩⟩
             ·rw [if_neg c13] at H
              exact absurd H (by simp)
            ·rw [if_neg c12] at H
             exact absurd H (by simp)
           ·rw [if_neg c11] at H
            exact absurd H (by simp)
          ·rw [if_neg c10] at H
           exact absurd H (by simp)
         ·rw [if_neg c9] at H
          have c9b0 := decide_eq_false c9
          (try simp only [hl3_2] at c9b0)
          clear c9
          by_cases c17 : 0 ≤ x4_1
          ·rw [if_pos c17] at H
           have c17b0 := decide_eq_true c17
           clear c17
           by_cases c18 : x4_1 < (x3_2.length : Int)
           ·rw [if_pos c18] at H
            have c18b0 := decide_eq_true c18
            (try simp only [hl3_2] at c18b0)
            clear c18
            replace H := Option.bind_eq_some_iff.mp H
            obtain ⟨t110, A190, H⟩ := H
            try dsimp only at H
            have A19 := Aside0.mk A190
            clear A190
            obtain ⟨y111, hy111⟩ : ∃ y_ : List Int, y_ = (x3_2.set (x4_1 : Int).toNat t110) := ⟨_, rfl⟩
            replace H : (earshotref03_mean.l0 k2 l0 y111 (wrap64 (x4_1 + 1))) = some r := by first | (rw [hy111]; with_reducible exact H) | (have H2_ := (Option.bind_some _ _).symm.trans H; rw [hy111]; with_reducible exact H2_) | (have H2_ := (Option.bind_some _ _).symm.trans H; with_reducible exact H2_) | with_reducible exact H | (rw [hy111]; exact H) | exact H
            have Ny111 := Aside0.mk hy111
            clear hy111
            have H' := Aside0.mk H
            clear H
            have p109 : 0 ≤ (x4_1 : Int) := of_decide_eq_true tA
            have q109 : x4_1 < (x3_2.length : Int) := of_decide_eq_true tA
            obtain ⟨ad109, e109, hx109_0⟩ := Kd.at_int (Kd.R_reads' HO_3.out).2.2 x4_1 p109 q109
            cases e109
            replace p109 := eq_true p109
            replace q109 := eq_true q109
            go_wp2_with (first | ((with_reducible refine gate_callee (f := 83) rfl ?_); refine goesL_ (some 46) rfl rfl Tryd.func83 (by kernel_rfl) rfl #[.int .i64 (rd x3_2 x4_1), .int .i64 (l0.length : Int)] rfl tL ?_; (with_reducible refine (earshotref02_Round.calls k2 (rd x3_2 x4_1) (l0.length : Int) t110 _ A19.out).mono ?_); rintro e w' ⟨rfl, ⟨nd, rfl⟩⟩; refine ⟨_, rfl, ?_⟩; (try (rw [drewN_self wr]; generalize hq_ : World.drewN wr _ = wr; have n0_ : Aside0 (Kd.R (Kd.int .i64) 3 wr w.heap.size (fun _ => True) (.slice (some ad109) x3_2.length co8) x3_2) := ⟨by rw [← hq_]; exact (tR HO_3.out)⟩; have n1_ : Aside0 (Below w.heap.size w wr) := ⟨by rw [← hq_]; exact tB⟩; clear HO_3 HB hq_; have HO_3 := n0_; have HB := n1_; clear n0_ n1_)); have p20 : 0 ≤ (x4_1 : Int) := of_decide_eq_true tA; have q20 : (x4_1 : Int) < ((x3_2.length : Int) : Int) := of_decide_eq_true tA; obtain ⟨go20, co20, eo20, gb20, gl20, cl20, HG20⟩ := Kd.R_form HO_3.out (by omega); (first | cases eo20 | (injection eo20 with ea_ en_ ec_; (first | subst ea_ | (injection ea_ with ea_; subst ea_)); subst ec_; clear en_)); have GB20 := Aside0.mk gb20; have GG20 := Aside0.mk HG20; clear gb20 gl20 HG20; (first | simp only [add_plain] at hx109_0 | skip); obtain ⟨hx20_0, hf20_0⟩ := Kd.R_celln 0 HO_3.out (x4_1 : Int) p20 q20; replace p20 := eq_true p20; replace q20 := eq_true q20; obtain ⟨hy21_, hz21_⟩ := Kd.R_celln 0 HO_3.out (x4_1 : Int) (of_decide_eq_true tA) (of_decide_eq_true tA); have HP21 := Kd.R_putg HO_3.out (x4_1 : Int) t110) | ((with_reducible refine gate_store (t := 3) (p := 47) rfl ?_); refine store_event (t := 3) (p := 47) (v := ?vo_w22) (w1 := (wr.setCell ⟨go20, (x4_1 : Int).toNat, none⟩ (.int .i64 t110))) ?hg ?ho ?hn ?hr ?_; (case ho => rfl); (case hg => rfl); (case hn => rfl); (case hr => first | (go_simp; done) | (go_simp; rfl)); intro w22 hw; have hg : wr.grownBy w22 (some go20) := (by rw [hw]; exact HP21.2); have hp_ : Kd.R (Kd.int .i64) 3 w22 w.heap.size (fun _ => True) (.slice (some ⟨go20, 0, none⟩) x3_2.length co8) y111 := (by rw [hw, Ny111.out]; exact HP21.1); clear HP21; have n0_ := Aside0.mk (hp_); have n1_ := Aside0.mk ((by rw [hw]; exact below_set (HB.out) GB20.out : Below w.heap.size w w22)); clear HO_3; clear HB; have HO_3 := n0_; have HB := n1_; clear n0_ n1_; clear hg hw hp_))
            (try simp only [← hl3_2])
            go_roundg k2
            case measure => have := HK1.out; have := HK2.out; omega
            case rel => exact ⟨(y111), (wrap64 (x4_1 + 1)), (by first | rfl | (simp; done) | (simp only [i64_w]; done) | (simp [*]; done)), H', ⟨by have := HK1.out; have := HK2.out; omega⟩, ⟨by (try simp only [hl3_2]); exact tR HO_3.out⟩, ⟨tB⟩⟩
           ·rw [if_neg c18] at H
            exact absurd H (by simp)
          ·rw [if_neg c17] at H
           exact absurd H (by simp)
      ·rw [if_neg c7] at H
       have c7b0 := decide_eq_false c7
       clear c7
       obtain rfl := Option.some.inj H
       obtain ⟨Ao23, co23, eo23⟩ := Kd.R_slice HO_3.out
       subst eo23
       go_wp2
       go_ret
       exact ⟨_, by first | rfl | (simp [errW_none, errW_some] <;> rfl) | (simp [*, errW_none, errW_some] <;> rfl), tR HO_3.out, tB⟩
   ·rw [if_neg c4] at H
    exact absurd H (by simp)
  ·rw [if_neg c3] at H
   exact absurd H (by simp)
 ·rw [if_neg c2] at H
  exact absurd H (by simp)

end Go.Proofs.YtdlbmbijobcljaaDoor.X

namespace Go.Proofs.YtdlbmbijobcljaaDoor.Pure
open Go.RowKit Go.Proofs.YtdlbmbijobcljaaDoor.X Go.Proofs.YtdlbmbijobcljaaDoorW.PrintWords Go.Proofs.YtdlbmbijobcljaaDoorW.PrintLast Go.Proofs.YtdlbmbijobcljaaDoorW.PrintMore
set_option linter.unusedVariables false
set_option linter.unusedSimpArgs false
set_option linter.unusedSectionVars false
/-- A sum over a list. -/
def sumL {α : Type} (f : α → Int) : List α → Int
  | [] => 0
  | x :: xs => f x + sumL f xs
theorem sumL_append {α : Type} (f : α → Int) (l m : List α) : sumL f (l ++ m) = sumL f l + sumL f m := by
  induction l with
  | nil => simp [sumL]
  | cons x xs ih => simp only [List.cons_append, sumL, ih]; omega
theorem sumL_take {α : Type} (f : α → Int) (l : List α) (j : Nat) (h : j < l.length) : sumL f (l.take (j + 1)) = sumL f (l.take j) + f l[j] := by
  rw [List.take_succ_eq_append_getElem h, sumL_append]
  simp [sumL]
theorem sumL_bound {α : Type} (f : α → Int) (B : Int) (l : List α) (h : ∀ x ∈ l, -B ≤ f x ∧ f x ≤ B) : -(B * (l.length : Int)) ≤ sumL f l ∧ sumL f l ≤ B * (l.length : Int) := by
  induction l with
  | nil => simp [sumL]
  | cons x xs ih =>
    have h1 := ih (fun y hy => h y (List.mem_cons_of_mem _ hy))
    have h2 := h x List.mem_cons_self
    simp only [sumL, List.length_cons]
    have e : B * ((xs.length + 1 : Nat) : Int) = B * (xs.length : Int) + B := by rw [Int.natCast_add, Int.mul_add]; simp
    omega
theorem sumL_congr {α : Type} (f g : α → Int) (l : List α) (h : ∀ x ∈ l, f x = g x) : sumL f l = sumL g l := by
  induction l with
  | nil => rfl
  | cons x xs ih => simp only [sumL, h x List.mem_cons_self, ih (fun y hy => h y (List.mem_cons_of_mem _ hy))]
/-- The first j elements as f says, the others as in s. -/
def mapTo (f : Nat → Int) (s : List Int) (j : Nat) : List Int := (List.range j).map f ++ s.drop j
theorem mapTo_length (f : Nat → Int) (s : List Int) (j : Nat) (h : j ≤ s.length) : (mapTo f s j).length = s.length := by simp [mapTo]; omega
theorem mapTo_set (f : Nat → Int) (s : List Int) (j : Nat) (h : j < s.length) : (mapTo f s j).set j (f j) = mapTo f s (j + 1) := by
  unfold mapTo
  rw [List.range_succ, List.map_append, List.set_append_right _ _ (by simp)]
  simp only [List.length_map, List.length_range, Nat.sub_self, List.map_cons, List.map_nil, List.append_assoc]
  congr 1
  rw [List.drop_eq_getElem_cons h]
  rfl
theorem mapTo_rd (f : Nat → Int) (s : List Int) (j : Nat) (h : j < s.length) : rd (mapTo f s j) (j : Int) = rd s (j : Int) := by
  unfold mapTo
  rw [rd_nat, rd_nat, List.getD_eq_getElem?_getD, List.getElem?_append_right (by simp), List.getD_eq_getElem?_getD]
  simp
theorem mapTo_all (f : Nat → Int) (s : List Int) : mapTo f s s.length = (List.range s.length).map f := by
  unfold mapTo
  rw [List.drop_length, List.append_nil]
theorem mapTo_set0 (f : Nat → Int) (c j : Nat) (h : j < c) : (mapTo f (List.replicate c 0) j).set j 0 = mapTo f (List.replicate c 0) j := by
  unfold mapTo
  rw [List.set_append_right _ _ (by simp)]
  simp only [List.length_map, List.length_range, Nat.sub_self]
  congr 1
  rw [List.drop_replicate]
  obtain ⟨d, e⟩ : ∃ d, c - j = d + 1 := ⟨c - j - 1, by omega⟩
  rw [e, List.replicate_succ]
  rfl
theorem rd_lt (l : List Int) (j : Nat) (h : j < l.length) : rd l (j : Int) = l[j] := by rw [rd_nat, List.getD_eq_getElem?_getD, List.getElem?_eq_getElem h]; rfl
theorem range_map_snoc {α : Type} (f : Nat → α) (j : Nat) : (List.range j).map f ++ [f j] = (List.range (j + 1)).map f := by rw [List.range_succ, List.map_append]; rfl
/-- The mean of vectors. -/
def meanOf (v : List (List Int)) : List Int := (List.range (v.getD 0 []).length).map fun (i : Nat) => rnd (sumL (fun x => rd x (i : Int)) v) (v.length : Int)
section
variable (v : List (List Int)) (c : Nat) (hv1 : 1 ≤ v.length) (hv : v.length ≤ 20000) (hc : ∀ x ∈ v, x.length = c) (hc64 : c ≤ 64) (hb : ∀ x ∈ v, ∀ y ∈ x, -1048576 ≤ y ∧ y ≤ 1048576)
include hv1 hv hc hc64 hb
theorem col_bound (i j : Nat) : -(1048576 * (j : Int)) ≤ sumL (fun x => rd x (i : Int)) (v.take j) ∧ sumL (fun x => rd x (i : Int)) (v.take j) ≤ 1048576 * (j : Int) := by
  have h1 := sumL_bound (fun x => rd x (i : Int)) 1048576 (v.take j) (fun x hx => rd_bound x 1048576 (by omega) (hb x (List.mem_of_mem_take hx)) i)
  have h2 : (v.take j).length ≤ j := List.length_take_le _ _
  omega
theorem zip_step (j : Nat) (h : j < v.length) : List.zipWith opAdd ((List.range c).map fun (i : Nat) => sumL (fun x => rd x (i : Int)) (v.take j)) v[j] = (List.range c).map fun (i : Nat) => sumL (fun x => rd x (i : Int)) (v.take (j + 1)) := by
  have hl := hc v[j] (List.getElem_mem h)
  apply List.ext_getElem
  · simp [hl]
  · intro i h1 h2
    have hi : i < c := by simpa using h2
    rw [List.getElem_zipWith, List.getElem_map, List.getElem_map, List.getElem_range, sumL_take _ _ _ h, rd_lt _ _ (by omega)]
    unfold opAdd
    have b1 := col_bound v c hv1 hv hc hc64 hb i j
    have b2 := hb v[j] (List.getElem_mem h) (v[j][i]'(by omega)) (List.getElem_mem _)
    rw [w64 (by omega) (by omega)]
theorem mean_ev : Ev (fun k => feature_mean.f k v) (meanOf v) := by
  have h0 : (v.getD 0 []).length = c := by
    rw [List.getD_eq_getElem?_getD, List.getElem?_eq_getElem (by omega)]
    exact hc _ (List.getElem_mem _)
  have e1 := up (fun j k => feature_mean.l1 k v (mapTo (fun (i : Nat) => rnd (sumL (fun x => rd x (i : Int)) v) (v.length : Int)) ((List.range c).map fun (i : Nat) => sumL (fun x => rd x (i : Int)) v) j) (c : Int) (j : Int)) (fun _ => meanOf v) c (by
      refine Ev.step (f := fun _ => some (meanOf v)) (fun k => ?_) (Ev.now _)
      simp only [feature_mean.l1]
      rw [if_neg (by omega)]
      have := mapTo_all (fun (i : Nat) => rnd (sumL (fun x => rd x (i : Int)) v) (v.length : Int)) ((List.range c).map fun (i : Nat) => sumL (fun x => rd x (i : Int)) v)
      rw [List.length_map, List.length_range] at this
      rw [this]
      unfold meanOf
      rw [h0]) (by
      rintro j hj ⟨K, ih⟩
      have hS : ((List.range c).map fun (i : Nat) => sumL (fun x => rd x (i : Int)) v).length = c := by simp
      have b := col_bound v c hv1 hv hc hc64 hb j v.length
      rw [List.take_length] at b
      have hr : rd ((List.range c).map fun (i : Nat) => sumL (fun x => rd x (i : Int)) v) (j : Int) = sumL (fun x => rd x (j : Int)) v := by
        rw [rd_lt _ _ (by omega), List.getElem_map, List.getElem_range]
      obtain ⟨K2, e2⟩ := rounded_ev (sumL (fun x => rd x (j : Int)) v) (v.length : Int) (by omega) (by omega) (by omega) (by omega) (by omega) (by omega)
      refine ⟨K + K2 + 1, fun k hk => ?_⟩
      obtain ⟨m, rfl⟩ : ∃ m, k = m + 1 := ⟨k - 1, by omega⟩
      have ih := ih m (by omega)
      have e2 := e2 m (by omega)
      dsimp only at ih e2 ⊢
      simp only [feature_mean.l1]
      rw [if_pos (by omega), if_pos (by omega), if_pos (by rw [mapTo_length _ _ _ (by omega)]; omega), mapTo_rd _ _ _ (by omega), hr, e2, Option.bind_some, Int.toNat_natCast, w64 (n := (j : Int) + 1) (by omega) (by omega)]
      rw [← mapTo_set _ _ _ (by omega)] at ih
      exact ih) 0 (by omega)
  have e0 := up (fun j k => feature_mean.l0 k v ((List.range c).map fun (i : Nat) => sumL (fun x => rd x (i : Int)) (v.take j)) v (v.length : Int) (j : Int)) (fun _ => meanOf v) v.length (by
      refine Ev.step (fun k => ?_) e1
      simp only [feature_mean.l0]
      rw [if_neg (by omega), List.take_length, List.length_map, List.length_range]
      rfl) (by
      rintro j hj ⟨K, ih⟩
      refine ⟨K + 1, fun k hk => ?_⟩
      obtain ⟨m, rfl⟩ : ∃ m, k = m + 1 := ⟨k - 1, by omega⟩
      have ih := ih m (by omega)
      dsimp only at ih ⊢
      have hl := hc v[j] (List.getElem_mem hj)
      simp only [feature_mean.l0]
      rw [if_pos (by omega), if_pos (by omega), if_pos (by omega), rd2_lt v j hj]
      unfold combined_165.f
      rw [if_pos (by simp [hl]; omega), Option.bind_some, zip_step v c hv1 hv hc hc64 hb j hj, w64 (n := (j : Int) + 1) (by omega) (by omega)]
      exact ih) 0 (by omega)
  refine Ev.congr (fun k => ?_) e0
  unfold feature_mean.f
  rw [rd2_zero, h0, if_pos (by omega), if_pos (by omega), if_pos (by omega), Int.toNat_natCast]
  have : (List.range c).map (fun (i : Nat) => sumL (fun x => rd x (i : Int)) (v.take 0)) = List.replicate c 0 := by
    apply List.ext_getElem
    · simp
    · intro i h1 h2
      simp [sumL]
  rw [this]
  rfl
theorem ref_mean_ev : Ev (fun k => earshotref03_mean.f k v) (meanOf v) := by
  have h0 : (v.getD 0 []).length = c := by
    rw [List.getD_eq_getElem?_getD, List.getElem?_eq_getElem (by omega)]
    exact hc _ (List.getElem_mem _)
  have e0 := up (fun j k => earshotref03_mean.l0 k v (mapTo (fun (i : Nat) => rnd (sumL (fun x => rd x (i : Int)) v) (v.length : Int)) (List.replicate c 0) j) (j : Int)) (fun _ => meanOf v) c (by
      refine Ev.step (f := fun _ => some (meanOf v)) (fun k => ?_) (Ev.now _)
      simp only [earshotref03_mean.l0]
      rw [if_neg (by rw [mapTo_length _ _ _ (by simp)]; simp)]
      have := mapTo_all (fun (i : Nat) => rnd (sumL (fun x => rd x (i : Int)) v) (v.length : Int)) (List.replicate c 0)
      rw [List.length_replicate] at this
      rw [this]
      unfold meanOf
      rw [h0]) (by
      intro j hj ih0
      have hR : (mapTo (fun (i : Nat) => rnd (sumL (fun x => rd x (i : Int)) v) (v.length : Int)) (List.replicate c 0) j).length = c := by rw [mapTo_length _ _ _ (by simp; omega)]; simp
      have e1 := up (fun t k => earshotref03_mean.l1 k v ((mapTo (fun (i : Nat) => rnd (sumL (fun x => rd x (i : Int)) v) (v.length : Int)) (List.replicate c 0) j).set j (sumL (fun x => rd x (j : Int)) (v.take t))) (j : Int) (t : Int)) (fun _ => meanOf v) v.length (by
        have b := col_bound v c hv1 hv hc hc64 hb j v.length
        rw [List.take_length] at b
        obtain ⟨K2, e2⟩ := round_ev (sumL (fun x => rd x (j : Int)) v) (v.length : Int) (by omega) (by omega) (by omega) (by omega) (by omega) (by omega)
        obtain ⟨K, ih⟩ := ih0
        refine ⟨K + K2 + 1, fun k hk => ?_⟩
        obtain ⟨m, rfl⟩ : ∃ m, k = m + 1 := ⟨k - 1, by omega⟩
        have ih := ih m (by omega)
        have e2 := e2 m (by omega)
        dsimp only at ih e2 ⊢
        simp only [earshotref03_mean.l1]
        rw [if_neg (by omega), if_pos (by omega), if_pos (by simp [hR]; omega), List.take_length, rd_set _ _ (by omega), e2, Option.bind_some, Int.toNat_natCast, w64 (n := (j : Int) + 1) (by omega) (by omega), List.set_set]
        rw [← mapTo_set _ _ _ (by simp; omega)] at ih
        exact ih) (by
        rintro t ht ⟨K, ih⟩
        refine ⟨K + 1, fun k hk => ?_⟩
        obtain ⟨m, rfl⟩ : ∃ m, k = m + 1 := ⟨k - 1, by omega⟩
        have ih := ih m (by omega)
        dsimp only at ih ⊢
        have hl := hc v[t] (List.getElem_mem ht)
        have b1 := col_bound v c hv1 hv hc hc64 hb j t
        have b2 := rd_bound v[t] 1048576 (by omega) (hb v[t] (List.getElem_mem ht)) (j : Int)
        simp only [earshotref03_mean.l1]
        rw [rd2_lt v t ht, if_pos (by omega), if_pos (by omega), if_pos (by simp [hR]; omega), if_pos (by omega), if_pos (by omega), rd_set _ _ (by omega), w64 (n := (t : Int) + 1) (by omega) (by omega), Int.toNat_natCast, List.set_set, w64 (by omega) (by omega)]
        rw [sumL_take _ _ _ ht] at ih
        exact ih) 0 (by omega)
      refine Ev.step (fun k => ?_) e1
      simp only [earshotref03_mean.l0]
      rw [if_pos (by omega)]
      simp only [List.take_zero, sumL]
      rw [mapTo_set0 _ _ _ hj]
      rfl) 0 (by omega)
  refine Ev.congr (fun k => ?_) e0
  unfold earshotref03_mean.f
  rw [rd2_zero, h0, if_pos (by omega), if_pos (by omega), if_pos (by omega), Int.toNat_natCast]
  rfl
end
end Go.Proofs.YtdlbmbijobcljaaDoor.Pure

namespace Go.Proofs.YtdlbmbijobcljaaDoor.Pure
open Go.RowKit Go.Proofs.YtdlbmbijobcljaaDoor.X Go.Proofs.YtdlbmbijobcljaaDoorW.PrintWords Go.Proofs.YtdlbmbijobcljaaDoorW.PrintLast
theorem known_ev : Ev (fun k => earshotlaw03_known.f k) true := Ev.of (k := 2000) earshotlaw03_known.mono (by decide +kernel)
end Go.Proofs.YtdlbmbijobcljaaDoor.Pure

namespace Go.Proofs.YtdlbmbijobcljaaDoor.Pure
open Go.RowKit Go.Proofs.YtdlbmbijobcljaaDoor.X Go.Proofs.YtdlbmbijobcljaaDoorW.PrintWords Go.Proofs.YtdlbmbijobcljaaDoorW.PrintLast Go.Proofs.YtdlbmbijobcljaaDoorW.PrintMore
set_option linter.unusedVariables false
set_option linter.unusedSimpArgs false
set_option linter.unusedSectionVars false
/-- Edge j is an edge of a spectrum of n numbers. -/
def edgeAt (e : List Int) (n : Int) (j : Nat) : Bool := decide (0 ≤ rd e (j : Int)) && decide (rd e (j : Int) ≤ n) && (decide (j = 0) || decide (rd e ((j - 1 : Nat) : Int) < rd e (j : Int)))
def edgesOK (e : List Int) (n : Int) : Bool := (List.range e.length).all (edgeAt e n) && decide (2 ≤ e.length)
theorem range_drop (n j : Nat) (h : j < n) : (List.range n).drop j = j :: (List.range n).drop (j + 1) := by
  rw [drop_cons _ j (by simpa using h), List.getElem_range]
theorem edged_ev (e : List Int) (n : Int) (he : e.length ≤ 1000000) : Ev (fun k => feature_edged.f k e n) (edgesOK e n) := by
  have h := up (fun j k => feature_edged.l0 k e n e (e.length : Int) (j : Int)) (fun j => ((List.range e.length).drop j).all (edgeAt e n) && decide (2 ≤ e.length)) e.length (by
      refine Ev.step (f := fun _ => some (decide (2 ≤ e.length))) (fun k => ?_) (by rw [List.drop_of_length_le (by simp)]; simp only [List.all_nil, Bool.true_and]; exact Ev.now _)
      simp only [feature_edged.l0]
      rw [if_neg (by omega)]
      congr 2
      exact propext ⟨fun h => by omega, fun h => by omega⟩) (by
      rintro j hj ⟨K, ih⟩
      refine ⟨K + 1, fun k hk => ?_⟩
      obtain ⟨m, rfl⟩ : ∃ m, k = m + 1 := ⟨k - 1, by omega⟩
      have ih := ih m (by omega)
      dsimp only at ih ⊢
      rw [range_drop _ j hj, List.all_cons]
      simp only [feature_edged.l0]
      rw [if_pos (by omega), if_pos (by omega), if_pos (by omega), w64 (n := (j : Int) + 1) (by omega) (by omega)]
      unfold edgeAt
      by_cases a1 : rd e (j : Int) < 0
      · rw [if_pos a1, decide_eq_false (show ¬ 0 ≤ rd e (j : Int) by omega)]; simp
      · rw [if_neg a1, decide_eq_true (show 0 ≤ rd e (j : Int) by omega)]
        by_cases a2 : rd e (j : Int) > n
        · rw [if_pos a2, decide_eq_false (show ¬ rd e (j : Int) ≤ n by omega)]; simp
        · rw [if_neg a2, decide_eq_true (show rd e (j : Int) ≤ n by omega)]
          by_cases a3 : j = 0
          · rw [if_neg (by omega), decide_eq_true a3]
            simp only [Bool.true_or, Bool.and_self, Bool.true_and]
            exact ih
          · rw [if_pos (by omega), decide_eq_false a3, w64 (n := (j : Int) - 1) (by omega) (by omega), if_pos (by omega), if_pos (by omega), show (j : Int) - 1 = ((j - 1 : Nat) : Int) by omega]
            by_cases a4 : rd e (j : Int) ≤ rd e ((j - 1 : Nat) : Int)
            · rw [if_pos a4, decide_eq_false (by omega)]; simp
            · rw [if_neg a4, decide_eq_true (show rd e ((j - 1 : Nat) : Int) < rd e (j : Int) by omega)]
              simp only [Bool.or_true, Bool.and_self, Bool.true_and]
              exact ih) 0 (by omega)
  exact h
theorem Edges_ev (e : List Int) (n : Int) (he : e.length ≤ 1000000) : Ev (fun k => earshotref03_Edges.f k e n) (edgesOK e n) := by
  by_cases h2 : e.length < 2
  · refine ⟨0, fun k _ => ?_⟩
    dsimp only
    unfold earshotref03_Edges.f edgesOK
    rw [if_pos (by omega), decide_eq_false (show ¬ 2 ≤ e.length by omega)]; simp
  have h := up (fun j k => earshotref03_Edges.l0 k e n (j : Int)) (fun j => ((List.range e.length).drop j).all (edgeAt e n) && decide (2 ≤ e.length)) e.length (by
      refine Ev.step (f := fun _ => some true) (fun k => ?_) (by rw [List.drop_of_length_le (by simp), decide_eq_true (by omega)]; exact Ev.now _)
      simp only [earshotref03_Edges.l0]
      rw [if_neg (by omega)]) (by
      rintro j hj ⟨K, ih⟩
      refine ⟨K + 1, fun k hk => ?_⟩
      obtain ⟨m, rfl⟩ : ∃ m, k = m + 1 := ⟨k - 1, by omega⟩
      have ih := ih m (by omega)
      dsimp only at ih ⊢
      rw [range_drop _ j hj, List.all_cons]
      simp only [earshotref03_Edges.l0]
      rw [if_pos (by omega), if_pos (by omega), w64 (n := (j : Int) + 1) (by omega) (by omega)]
      unfold edgeAt
      by_cases a1 : rd e (j : Int) < 0
      · rw [if_pos a1, decide_eq_false (show ¬ 0 ≤ rd e (j : Int) by omega)]; simp
      · rw [if_neg a1, decide_eq_true (show 0 ≤ rd e (j : Int) by omega)]
        by_cases a2 : rd e (j : Int) > n
        · rw [if_pos a2, decide_eq_false (show ¬ rd e (j : Int) ≤ n by omega)]; simp
        · rw [if_neg a2, decide_eq_true (show rd e (j : Int) ≤ n by omega)]
          by_cases a3 : j = 0
          · rw [if_neg (by omega), decide_eq_true a3]
            simp only [Bool.true_or, Bool.and_self, Bool.true_and]
            exact ih
          · rw [if_pos (by omega), decide_eq_false a3, w64 (n := (j : Int) - 1) (by omega) (by omega), if_pos (by omega), if_pos (by omega), show (j : Int) - 1 = ((j - 1 : Nat) : Int) by omega]
            by_cases a4 : rd e (j : Int) ≤ rd e ((j - 1 : Nat) : Int)
            · rw [if_pos a4, decide_eq_false (by omega)]; simp
            · rw [if_neg a4, decide_eq_true (show rd e ((j - 1 : Nat) : Int) < rd e (j : Int) by omega)]
              simp only [Bool.or_true, Bool.and_self, Bool.true_and]
              exact ih) 0 (by omega)
  refine Ev.congr (fun k => ?_) h
  unfold earshotref03_Edges.f
  rw [if_neg (by omega)]
  rfl
/-- The sum of squares. -/
def en (l : List Int) : Int := sumL (fun x => x * x) l
def seg (s e : List Int) (b : Nat) : List Int := (s.take (rd e ((b + 1 : Nat) : Int)).toNat).drop (rd e (b : Int)).toNat
def bandsOf (s e : List Int) : List Int := (List.range (e.length - 1)).map fun (b : Nat) => en (seg s e b)
theorem sq16 (x : Int) (h : -16777216 ≤ x ∧ x ≤ 16777216) : 0 ≤ x * x ∧ x * x ≤ 281474976710656 := by
  have := mul_bound x x 16777216 16777216 (by omega) (by omega) (by omega) (by omega)
  refine ⟨?_, by omega⟩
  by_cases h0 : 0 ≤ x
  · exact Int.mul_nonneg h0 h0
  · exact Int.mul_nonneg_of_nonpos_of_nonpos (by omega) (by omega)
theorem en_take (l : List Int) (j : Nat) (h : j < l.length) : en (l.take (j + 1)) = en (l.take j) + l[j] * l[j] := sumL_take _ _ _ h
theorem en_append (l m : List Int) : en (l ++ m) = en l + en m := sumL_append _ l m
theorem en_bound (l : List Int) (h : ∀ x ∈ l, -16777216 ≤ x ∧ x ≤ 16777216) (hl : l.length ≤ 64) : 0 ≤ en l ∧ en l ≤ 18014398509481984 := by
  have key : ∀ l : List Int, (∀ x ∈ l, -16777216 ≤ x ∧ x ≤ 16777216) → 0 ≤ en l ∧ en l ≤ 281474976710656 * (l.length : Int) := by
    intro l
    induction l with
    | nil => intro _; simp [en, sumL]
    | cons x xs ih =>
      intro h
      have h1 := ih (fun y hy => h y (List.mem_cons_of_mem _ hy))
      have h2 := sq16 x (h x List.mem_cons_self)
      simp only [en, sumL, List.length_cons] at h1 ⊢
      omega
  have := key l h
  omega
theorem seg_mem (s e : List Int) (b : Nat) : ∀ x ∈ seg s e b, x ∈ s := fun x hx => List.mem_of_mem_take (List.mem_of_mem_drop hx)
section
variable (s e : List Int) (hs64 : s.length ≤ 64) (hb : ∀ x ∈ s, -16777216 ≤ x ∧ x ≤ 16777216) (he : e.length ≤ 1000000) (hok : edgesOK e (s.length : Int) = true)
include hs64 hb he hok
theorem edge_get (j : Nat) (hj : j < e.length) : 0 ≤ rd e (j : Int) ∧ rd e (j : Int) ≤ s.length ∧ (j ≠ 0 → rd e ((j - 1 : Nat) : Int) < rd e (j : Int)) := by
  simp only [edgesOK, Bool.and_eq_true, decide_eq_true_eq] at hok
  have h := List.all_eq_true.1 hok.1 j (List.mem_range.2 hj)
  simp only [edgeAt, Bool.and_eq_true, Bool.or_eq_true, decide_eq_true_eq] at h
  exact ⟨h.1.1, h.1.2, fun h0 => h.2.resolve_left h0⟩
theorem edge_two : 2 ≤ e.length := by
  simp only [edgesOK, Bool.and_eq_true, decide_eq_true_eq] at hok
  exact hok.2
theorem edge_lt (j : Nat) (hj : j + 1 < e.length) : rd e (j : Int) < rd e ((j + 1 : Nat) : Int) := (edge_get s e hs64 hb he hok (j + 1) hj).2.2 (by omega)
theorem edge_first (j : Nat) (hj : j < e.length) : rd e 0 ≤ rd e (j : Int) ∧ (1 ≤ j → rd e 0 < rd e (j : Int)) := by
  induction j with
  | zero => exact ⟨Int.le_refl _, fun h => by omega⟩
  | succ j ih =>
    have h1 := ih (by omega)
    have h2 := edge_lt s e hs64 hb he hok j hj
    exact ⟨by omega, fun _ => by omega⟩
theorem seg_len (b : Nat) : (seg s e b).length ≤ 64 := by
  unfold seg
  rw [List.length_drop, List.length_take]
  omega
theorem seg_en (b i : Nat) : 0 ≤ en ((seg s e b).take i) ∧ en ((seg s e b).take i) ≤ 18014398509481984 := by
  have := seg_len s e hs64 hb he hok b
  exact en_bound _ (fun x hx => hb x (seg_mem s e b x (List.mem_of_mem_take hx))) (by rw [List.length_take]; omega)
theorem Energy_ev (b : Nat) : Ev (fun k => earshotref02_Energy.f k (seg s e b)) (en (seg s e b)) := by
  have hl := seg_len s e hs64 hb he hok b
  have h := up (fun j k => earshotref02_Energy.l0 k (seg s e b) (en ((seg s e b).take j)) (j : Int)) (fun _ => en (seg s e b)) (seg s e b).length (by
      refine Ev.step (f := fun _ => some (en (seg s e b))) (fun k => ?_) (Ev.now _)
      simp only [earshotref02_Energy.l0]
      rw [if_neg (by omega), List.take_length]) (by
      rintro j hj ⟨K, ih⟩
      refine ⟨K + 1, fun k hk => ?_⟩
      obtain ⟨m, rfl⟩ : ∃ m, k = m + 1 := ⟨k - 1, by omega⟩
      have ih := ih m (by omega)
      dsimp only at ih ⊢
      have h1 := seg_en s e hs64 hb he hok b j
      have h2 := sq16 (seg s e b)[j] (hb _ (seg_mem s e b _ (List.getElem_mem hj)))
      simp only [earshotref02_Energy.l0]
      rw [if_pos (by omega), if_pos (by omega), rd_lt _ j hj, w64 (n := (seg s e b)[j] * (seg s e b)[j]) (by omega) (by omega), w64 (by omega) (by omega), w64 (n := (j : Int) + 1) (by omega) (by omega)]
      rw [en_take _ _ hj] at ih
      exact ih) 0 (by omega)
  exact h
theorem ref_Bands_ev : Ev (fun k => earshotref03_Bands.f k s e) (bandsOf s e) := by
  have h2 := edge_two s e hs64 hb he hok
  have h := up (fun j k => earshotref03_Bands.l0 k s e ((List.range j).map fun (b : Nat) => en (seg s e b)) (j : Int)) (fun _ => bandsOf s e) (e.length - 1) (by
      refine Ev.step (f := fun _ => some (bandsOf s e)) (fun k => ?_) (Ev.now _)
      simp only [earshotref03_Bands.l0]
      rw [w64 (by omega) (by omega), if_neg (by omega)]
      rfl) (by
      rintro j hj ⟨K, ih⟩
      obtain ⟨K1, e1⟩ := Energy_ev s e hs64 hb he hok j
      refine ⟨K + K1 + 1, fun k hk => ?_⟩
      obtain ⟨m, rfl⟩ : ∃ m, k = m + 1 := ⟨k - 1, by omega⟩
      have ih := ih m (by omega)
      have e1 := e1 m (by omega)
      dsimp only at ih e1 ⊢
      have g0 := edge_get s e hs64 hb he hok j (by omega)
      have g1 := edge_get s e hs64 hb he hok (j + 1) (by omega)
      have g2 := edge_lt s e hs64 hb he hok j (by omega)
      unfold seg at e1
      simp only [earshotref03_Bands.l0]
      rw [w64 (n := (j : Int) + 1) (by omega) (by omega), show (j : Int) + 1 = ((j + 1 : Nat) : Int) by omega, if_pos (by omega), if_pos (by omega), if_pos (by omega), if_pos (by omega), if_pos (by omega), if_pos (by omega), if_pos (by omega), e1, Option.bind_some, if_pos (by simp; omega)]
      rw [← range_map_snoc (fun (b : Nat) => en (seg s e b)) j] at ih
      exact ih) 0 (by omega)
  exact h
theorem bands_ev : Ev (fun k => feature_bands.f k s e) (bandsOf s e) := by
  have h2 := edge_two s e hs64 hb he hok
  have hL : ∀ j, j ≤ e.length - 1 → (mapTo (fun (b : Nat) => en (seg s e b)) (List.replicate (e.length - 1) 0) j).length = e.length - 1 := by
    intro j hj
    rw [mapTo_length _ _ _ (by simp; omega)]; simp
  have h := up (fun j k => feature_bands.l0 k s e (mapTo (fun (b : Nat) => en (seg s e b)) (List.replicate (e.length - 1) 0) j) ((e.length - 1 : Nat) : Int) (j : Int)) (fun _ => bandsOf s e) (e.length - 1) (by
      refine Ev.step (f := fun _ => some (bandsOf s e)) (fun k => ?_) (Ev.now _)
      simp only [feature_bands.l0]
      have := mapTo_all (fun (b : Nat) => en (seg s e b)) (List.replicate (e.length - 1) 0)
      rw [List.length_replicate] at this
      rw [if_neg (by omega), this]
      rfl) (by
      intro j hj ih0
      have hLj := hL j (by omega)
      have hl := seg_len s e hs64 hb he hok j
      have g0 := edge_get s e hs64 hb he hok j (by omega)
      have g1 := edge_get s e hs64 hb he hok (j + 1) (by omega)
      have g2 := edge_lt s e hs64 hb he hok j (by omega)
      have hin := up (fun i k => feature_bands.l1 k s e ((mapTo (fun (b : Nat) => en (seg s e b)) (List.replicate (e.length - 1) 0) j).set j (en ((seg s e j).take i))) (j : Int) ((e.length - 1 : Nat) : Int) (j : Int) (seg s e j) ((seg s e j).length : Int) (i : Int)) (fun _ => bandsOf s e) (seg s e j).length (by
          obtain ⟨K, ih⟩ := ih0
          refine ⟨K + 1, fun k hk => ?_⟩
          obtain ⟨m, rfl⟩ : ∃ m, k = m + 1 := ⟨k - 1, by omega⟩
          have ih := ih m (by omega)
          dsimp only at ih ⊢
          simp only [feature_bands.l1]
          rw [if_neg (by omega), List.take_length, w64 (n := (j : Int) + 1) (by omega) (by omega)]
          rw [← mapTo_set _ _ _ (by simp; omega)] at ih
          exact ih) (by
          rintro i hi ⟨K, ih⟩
          refine ⟨K + 1, fun k hk => ?_⟩
          obtain ⟨m, rfl⟩ : ∃ m, k = m + 1 := ⟨k - 1, by omega⟩
          have ih := ih m (by omega)
          dsimp only at ih ⊢
          have b1 := seg_en s e hs64 hb he hok j i
          have b2 := sq16 (seg s e j)[i] (hb _ (seg_mem s e j _ (List.getElem_mem hi)))
          simp only [feature_bands.l1]
          rw [if_pos (by omega), if_pos (by omega), if_pos (by omega), if_pos (by omega), if_pos (by rw [List.length_set]; omega), rd_set _ _ (by omega), rd_lt _ i hi, w64 (n := (seg s e j)[i] * (seg s e j)[i]) (by omega) (by omega), w64 (by omega) (by omega), w64 (n := (i : Int) + 1) (by omega) (by omega), Int.toNat_natCast, List.set_set]
          rw [en_take _ _ hi] at ih
          exact ih) 0 (by omega)
      refine Ev.step (fun k => ?_) hin
      simp only [feature_bands.l0]
      rw [w64 (n := (j : Int) + 1) (by omega) (by omega), show (j : Int) + 1 = ((j + 1 : Nat) : Int) by omega, if_pos (by omega), if_pos (by omega), if_pos (by omega), if_pos (by omega), if_pos (by omega), if_pos (by omega), if_pos (by omega), if_pos (by omega)]
      simp only [List.take_zero]
      rw [show en [] = 0 from rfl, mapTo_set0 _ _ _ hj]
      rfl) 0 (by omega)
  refine Ev.congr (fun k => ?_) h
  unfold feature_bands.f
  rw [w64 (by omega) (by omega), show (e.length : Int) - 1 = ((e.length - 1 : Nat) : Int) by omega, if_pos (by omega), if_pos (by omega), Int.toNat_natCast, Option.bind_some, List.length_replicate]
  rfl
theorem Bands_ok : Ev (fun k => feature_Bands.f k s e) (bandsOf s e, 0) := by
  obtain ⟨K1, e1⟩ := edged_ev e (s.length : Int) he
  obtain ⟨K2, e2⟩ := bands_ev s e hs64 hb he hok
  refine ⟨K1 + K2, fun k hk => ?_⟩
  have e1 := e1 k (by omega)
  have e2 := e2 k (by omega)
  dsimp only at e1 e2 ⊢
  unfold feature_Bands.f
  rw [if_neg (by omega), within_at _ _ (by omega) (by omega), (allIn_iff _ _ _).2 hb, Option.bind_some, if_pos rfl, e1, hok, Option.bind_some, if_pos rfl, e2]
  rfl
/-- The sum of the first j bands. -/
def partTo (j : Nat) : Int := en ((s.take (rd e (j : Int)).toNat).drop (rd e 0).toNat)
theorem part_step (j : Nat) (hj : j + 1 < e.length) : partTo s e (j + 1) = partTo s e j + en (seg s e j) := by
  have g0 := edge_get s e hs64 hb he hok 0 (by omega)
  have g1 := edge_get s e hs64 hb he hok j (by omega)
  have g2 := edge_get s e hs64 hb he hok (j + 1) (by omega)
  have g3 := edge_lt s e hs64 hb he hok j hj
  have g4 := edge_first s e hs64 hb he hok j (by omega)
  unfold partTo seg
  rw [← en_append]
  congr 1
  generalize hA : (rd e (j : Int)).toNat = A
  generalize hB : (rd e ((j + 1 : Nat) : Int)).toNat = B
  generalize hC : (rd e 0).toNat = C
  have hCA : C ≤ A := by omega
  have hAB : A ≤ B := by omega
  have h1 : s.take B = s.take A ++ (s.take B).drop A := by
    have := List.take_append_drop A (s.take B)
    rw [List.take_take, Nat.min_eq_left hAB] at this
    exact this.symm
  have hlA : C ≤ (s.take A).length := by rw [List.length_take]; omega
  calc (s.take B).drop C = (s.take A ++ (s.take B).drop A).drop C := by rw [← h1]
    _ = (s.take A).drop C ++ (s.take B).drop A := List.drop_append_of_le_length hlA
theorem part_zero : partTo s e 0 = 0 := by
  unfold partTo
  rw [List.drop_of_length_le (by rw [List.length_take]; simp; omega)]
  rfl
theorem part_bound (j : Nat) : 0 ≤ partTo s e j ∧ partTo s e j ≤ 18014398509481984 := by
  unfold partTo
  refine en_bound _ (fun x hx => hb x (List.mem_of_mem_take (List.mem_of_mem_drop hx))) ?_
  rw [List.length_drop, List.length_take]
  omega
theorem two_ok : edgesOK [rd e 0, rd e ((e.length - 1 : Nat) : Int)] (s.length : Int) = true := by
  have h2 := edge_two s e hs64 hb he hok
  have g0 := edge_get s e hs64 hb he hok 0 (by omega)
  have g1 := edge_get s e hs64 hb he hok (e.length - 1) (by omega)
  have g2 := edge_first s e hs64 hb he hok (e.length - 1) (by omega)
  have g3 := g2.2 (by omega)
  have x0 : rd [rd e 0, rd e ((e.length - 1 : Nat) : Int)] ((0 : Nat) : Int) = rd e 0 := rfl
  have x1 : rd [rd e 0, rd e ((e.length - 1 : Nat) : Int)] ((1 : Nat) : Int) = rd e ((e.length - 1 : Nat) : Int) := rfl
  simp only [edgesOK, Bool.and_eq_true, decide_eq_true_eq, List.length_cons, List.length_nil]
  refine ⟨List.all_eq_true.2 fun j hj => ?_, by omega⟩
  have hj2 := List.mem_range.1 hj
  have : j = 0 ∨ j = 1 := by omega
  rcases this with rfl | rfl
  · simp only [edgeAt, x0]
    have a : 0 ≤ rd e 0 := g0.1
    have b : rd e 0 ≤ (s.length : Int) := g0.2.1
    simp [a, b]
  · simp only [edgeAt, x0, x1]
    simp [g1.1, g1.2.1, g3]
theorem two_bands : bandsOf s [rd e 0, rd e ((e.length - 1 : Nat) : Int)] = [partTo s e (e.length - 1)] := rfl
theorem law_l0 : Ev (fun k => earshotlaw03_FeatureBands.l0 k (bandsOf s e) [partTo s e (e.length - 1)] 0 0 0) true := by
  have h2 := edge_two s e hs64 hb he hok
  have hL : (bandsOf s e).length = e.length - 1 := by simp [bandsOf]
  have h := up (fun j k => earshotlaw03_FeatureBands.l0 k (bandsOf s e) [partTo s e (e.length - 1)] 0 (partTo s e j) (j : Int)) (fun _ => true) (e.length - 1) (by
      obtain ⟨K, e0⟩ := known_ev
      refine ⟨K + 1, fun k hk => ?_⟩
      obtain ⟨m, rfl⟩ : ∃ m, k = m + 1 := ⟨k - 1, by omega⟩
      have e0 := e0 m (by omega)
      dsimp only at e0 ⊢
      simp only [earshotlaw03_FeatureBands.l0]
      rw [if_neg (by omega), if_pos trivial, if_pos (by simp), if_pos (by simp), if_pos (by rfl), e0]
      rfl) (by
      rintro j hj ⟨K, ih⟩
      refine ⟨K + 1, fun k hk => ?_⟩
      obtain ⟨m, rfl⟩ : ∃ m, k = m + 1 := ⟨k - 1, by omega⟩
      have ih := ih m (by omega)
      dsimp only at ih ⊢
      have b1 := part_bound s e hs64 hb he hok (j + 1)
      have b2 := part_bound s e hs64 hb he hok j
      have b3 := part_step s e hs64 hb he hok j (by omega)
      have hr : rd (bandsOf s e) (j : Int) = en (seg s e j) := by
        rw [rd_lt _ j (by omega)]
        simp [bandsOf]
      simp only [earshotlaw03_FeatureBands.l0]
      rw [if_pos (by omega), if_pos (by omega), hr, ← b3, w64 (by omega) (by omega), w64 (n := (j : Int) + 1) (by omega) (by omega)]
      exact ih) 0 (by omega)
  have h0 := part_zero s e hs64 hb he hok
  rw [h0] at h
  exact h
end
theorem Bands_bad (s e : List Int) (he : e.length ≤ 1000000) (h : s.length > 64 ∨ allIn s (-16777216) 16777216 = false ∨ edgesOK e (s.length : Int) = false) : Ev (fun k => feature_Bands.f k s e) ([], 2) := by
  by_cases a1 : s.length > 64
  · refine ⟨0, fun k _ => ?_⟩
    dsimp only
    unfold feature_Bands.f
    rw [if_pos (by omega)]
  · obtain ⟨K1, e1⟩ := edged_ev e (s.length : Int) he
    refine ⟨K1, fun k hk => ?_⟩
    have e1 := e1 k hk
    dsimp only at e1 ⊢
    unfold feature_Bands.f
    rw [if_neg (by omega), within_at _ _ (by omega) (by omega), Option.bind_some, e1]
    cases a2 : allIn s (-16777216) 16777216 with
    | false => rw [if_neg (by simp)]
    | true =>
      have a3 : edgesOK e (s.length : Int) = false := by
        rcases h with h | h | h
        · omega
        · rw [h] at a2; cases a2
        · exact h
      rw [if_pos rfl, a3, Option.bind_some, if_neg (by simp)]
theorem bandsLaw_known (s e : List Int) : Ev (fun k => earshotlaw03_FeatureBands.j0 k s e true) true := by
  obtain ⟨K, e0⟩ := known_ev
  refine ⟨K + 1, fun k hk => ?_⟩
  obtain ⟨m, rfl⟩ : ∃ m, k = m + 1 := ⟨k - 1, by omega⟩
  have e0 := e0 m (by omega)
  dsimp only at e0 ⊢
  simp only [earshotlaw03_FeatureBands.j0]
  rw [if_pos trivial, e0]
  rfl
theorem bandsLaw_bad (s e : List Int) : Ev (fun k => earshotlaw03_FeatureBands.j1 k s e [] 2 true) true := by
  obtain ⟨K, e0⟩ := known_ev
  refine ⟨K + 1, fun k hk => ?_⟩
  obtain ⟨m, rfl⟩ : ∃ m, k = m + 1 := ⟨k - 1, by omega⟩
  have e0 := e0 m (by omega)
  dsimp only at e0 ⊢
  simp only [earshotlaw03_FeatureBands.j1]
  rw [if_pos trivial, if_pos trivial, if_pos (by simp), e0]
  rfl
theorem bandsLaw_good (s e : List Int) (hs64 : s.length ≤ 64) (hb : ∀ x ∈ s, -16777216 ≤ x ∧ x ≤ 16777216) (he : e.length ≤ 1000000) (hok : edgesOK e (s.length : Int) = true) : Ev (fun k => earshotlaw03_FeatureBands.j1 k s e (bandsOf s e) 0 false) true := by
  have h2 := edge_two s e hs64 hb he hok
  obtain ⟨K1, e1⟩ := ref_Bands_ev s e hs64 hb he hok
  obtain ⟨K2, e2⟩ := same_ev (bandsOf s e) _ rfl (by simp [bandsOf]; omega)
  obtain ⟨K3, e3⟩ := Bands_ok s [rd e 0, rd e ((e.length - 1 : Nat) : Int)] hs64 hb (by simp) (two_ok s e hs64 hb he hok)
  obtain ⟨K4, e4⟩ := law_l0 s e hs64 hb he hok
  refine ⟨K1 + K2 + K3 + K4 + 2, fun k hk => ?_⟩
  obtain ⟨m, rfl⟩ : ∃ m, k = m + 1 + 1 := ⟨k - 2, by omega⟩
  have e1 := e1 (m + 1) (by omega)
  have e2 := e2 (m + 1) (by omega)
  have e3 := e3 m (by omega)
  have e4 := e4 m (by omega)
  dsimp only at e1 e2 e3 e4 ⊢
  rw [two_bands s e hs64 hb he hok] at e3
  simp only [earshotlaw03_FeatureBands.j1]
  rw [if_neg (by simp), if_pos trivial, e1, Option.bind_some, e2, Option.bind_some]
  simp only [earshotlaw03_FeatureBands.j2]
  rw [if_neg (by simp), if_pos (by omega), w64 (by omega) (by omega), show (e.length : Int) - 1 = ((e.length - 1 : Nat) : Int) by omega, if_pos (by omega), if_pos (by omega), e3, Option.bind_some]
  exact e4
theorem bandsLaw_ev (s e : List Int) : Ev (fun k => earshotlaw03_FeatureBands.f k s e) true := by
  obtain ⟨K0, k0⟩ := bandsLaw_known s e
  by_cases h1 : (s.length : Int) > 70
  · refine ⟨K0, fun k hk => ?_⟩
    dsimp only
    unfold earshotlaw03_FeatureBands.f
    rw [if_pos h1]
    exact k0 k hk
  · by_cases h2 : (e.length : Int) > 70
    · refine ⟨K0, fun k hk => ?_⟩
      dsimp only
      unfold earshotlaw03_FeatureBands.f
      rw [if_neg h1, decide_eq_true h2]
      exact k0 k hk
    · have main : Ev (fun k => earshotlaw03_FeatureBands.j0 k s e false) true := by
        obtain ⟨K1, k1⟩ := bandsLaw_bad s e
        by_cases a1 : s.length > 64
        · obtain ⟨K2, k2⟩ := Bands_bad s e (by omega) (.inl a1)
          refine ⟨K1 + K2 + 1, fun k hk => ?_⟩
          obtain ⟨m, rfl⟩ : ∃ m, k = m + 1 := ⟨k - 1, by omega⟩
          have k1 := k1 m (by omega)
          have k2 := k2 m (by omega)
          dsimp only at k1 k2 ⊢
          simp only [earshotlaw03_FeatureBands.j0]
          rw [if_neg (by simp), k2, Option.bind_some, if_pos (by omega)]
          exact k1
        · obtain ⟨K3, k3⟩ := all_ev s (-16777216) 16777216 (by omega)
          cases a2 : allIn s (-16777216) 16777216 with
          | false =>
            obtain ⟨K2, k2⟩ := Bands_bad s e (by omega) (.inr (.inl a2))
            refine ⟨K1 + K2 + K3 + 1, fun k hk => ?_⟩
            obtain ⟨m, rfl⟩ : ∃ m, k = m + 1 := ⟨k - 1, by omega⟩
            have k1 := k1 m (by omega)
            have k2 := k2 m (by omega)
            have k3 := k3 m (by omega)
            dsimp only at k1 k2 k3 ⊢
            simp only [earshotlaw03_FeatureBands.j0]
            rw [if_neg (by simp), k2, Option.bind_some, if_neg (by omega), k3, a2, Option.bind_some, if_neg (by simp)]
            exact k1
          | true =>
            obtain ⟨K4, k4⟩ := Edges_ev e (s.length : Int) (by omega)
            cases a3 : edgesOK e (s.length : Int) with
            | false =>
              obtain ⟨K2, k2⟩ := Bands_bad s e (by omega) (.inr (.inr a3))
              refine ⟨K1 + K2 + K3 + K4 + 1, fun k hk => ?_⟩
              obtain ⟨m, rfl⟩ : ∃ m, k = m + 1 := ⟨k - 1, by omega⟩
              have k1 := k1 m (by omega)
              have k2 := k2 m (by omega)
              have k3 := k3 m (by omega)
              have k4 := k4 m (by omega)
              dsimp only at k1 k2 k3 k4 ⊢
              simp only [earshotlaw03_FeatureBands.j0]
              rw [if_neg (by simp), k2, Option.bind_some, if_neg (by omega), k3, a2, Option.bind_some, if_pos rfl, k4, a3, Option.bind_some]
              exact k1
            | true =>
              have hb := (allIn_iff _ _ _).1 a2
              obtain ⟨K2, k2⟩ := Bands_ok s e (by omega) hb (by omega) a3
              obtain ⟨K5, k5⟩ := bandsLaw_good s e (by omega) hb (by omega) a3
              refine ⟨K2 + K3 + K4 + K5 + 1, fun k hk => ?_⟩
              obtain ⟨m, rfl⟩ : ∃ m, k = m + 1 := ⟨k - 1, by omega⟩
              have k2 := k2 m (by omega)
              have k3 := k3 m (by omega)
              have k4 := k4 m (by omega)
              have k5 := k5 m (by omega)
              dsimp only at k2 k3 k4 k5 ⊢
              simp only [earshotlaw03_FeatureBands.j0]
              rw [if_neg (by simp), k2, Option.bind_some, if_neg (by omega), k3, a2, Option.bind_some, if_pos rfl, k4, a3, Option.bind_some]
              exact k5
      obtain ⟨K1, k1⟩ := main
      refine ⟨K1, fun k hk => ?_⟩
      dsimp only
      unfold earshotlaw03_FeatureBands.f
      rw [if_neg h1, decide_eq_false h2]
      exact k1 k hk
theorem FeatureBands : earshotlaw03_FeatureBands.Pure := fun s e _ _ _ _ _ _ => (bandsLaw_ev s e).rounds
end Go.Proofs.YtdlbmbijobcljaaDoor.Pure

namespace Go.Proofs.YtdlbmbijobcljaaDoor.featureBands
open Go.ChangeShapes Go.WideShapes Go.ChangeAt Go.RowKit
open Go.ChangeMaps (open_string shut_string)
set_option linter.unusedVariables false
theorem own : ownKnob Tryd.prog.godebug = none := by kernel_rfl
theorem laidOut : laidOutB Tryd.prog = true := by kernel_rfl
def IsRow (k : IntKind) (w : World) (a : Option Addr) (len cap : Nat) (zs : List Int) : Prop :=
  (a = none ∧ len = 0 ∧ cap = 0 ∧ zs = []) ∨
  ∃ x, a = some x ∧ len ≤ cap ∧ cap ≤ maxLen ∧ zs.length = cap ∧ (∀ i, i < zs.length → w.cell? (x.add i) = some (.int k (zs.getD i 0))) ∧ ∀ n ∈ zs, (Lit.int k n).wf = true
set_option maxRecDepth 100000 in
theorem lifted (os : Os) (started : os.Started) (H : Type) (enc : TypeId × Value → H) :
    ReturnsInHanded {} Tryd.checked os 16 .any (fun w args => (Rows.featureBandsSpec.pre enc Tryd.prog Tryd.f16 Rows.featureBandsRow.domain false w args ∧ laidMetH Tryd.prog laidC w) ∧ sizedMet enc Tryd.prog Tryd.f16 (OpenSpec.ofChange Rows.featureBandsSpec) false w args) (Rows.featureBandsSpec.post enc Tryd.prog Tryd.f16 false true false false) := by
  refine returnsInHanded_of_change_and (C := Tryd.checked) (X := fun w _ => laidMetH Tryd.prog laidC w) (fun _ _ _ hh h => h.of_heap hh) own started (by kernel_rfl) Tryd.func16
    (ChangeSpec.witness_shaped (enc := enc) (C := Tryd.checked) (os := os) (X := fun w _ => laidMetH Tryd.prog laidC w) false (World.doorLaid Tryd.prog 4000 os) #[.slice none 0 0, .slice none 0 0] 8 rfl (World.shaped_of_RefB (by kernel_rfl) (by kernel_rfl)) (by kernel_rfl) (by kernel_rfl) (by kernel_rfl) (door_met os _)) ?_
  intro W base args ds gs before hval0 hW hcnd hsz0 hL _
  have ht := tab_of_laid hL
  have hsz : (DataW.weightsEach Tryd.prog (Tryd.f16.params.toList ++ Rows.featureBandsSpec.plain.varTypes Tryd.prog) (ds ++ gs)).all (· ≤ reachBytes) = true := hsz0
  have hval : ∀ (j : Nat) t v, Tryd.f16.params[j]? = some t → args[j]? = some v → Value.okWide Tryd.prog W .any base t v := hval0
  have hW' := hW
  obtain ⟨p, q, hA0, hV, rfl, hfz, hnd⟩ := hW
  have hA : DataW.TrodAll enc Tryd.prog W 0 (fun _ => true) true Tryd.f16.params.toList args.toList ds p := hA0
  rw [Tryd.params16] at hA hval hsz
  obtain ⟨v0, vs0, d0, ds0, p0, q0, hargs, rfl, rfl, h0, r0⟩ := trodAll_cons hA
  obtain ⟨v1, vs1, d1, ds1, p1, q1, rfl, rfl, rfl, h1, r1⟩ := trodAll_cons r0
  obtain ⟨rfl, rfl, rfl⟩ := trodAll_nil r1
  obtain rfl : args = #[v0, v1] := by cases args; simp_all
  obtain ⟨rfl, rfl⟩ := trodVars_none hV
  obtain ⟨a0, len0, cap0, rfl⟩ := okWide_slice Tryd.underlying22 (hval 0 22 v0 rfl rfl)
  have k0 := h0
  have lt0 : ∀ x ∈ p0, x.block < W.heap.size := by obtain ⟨m, hm⟩ := k0; exact DataW.trod_lt m _ _ _ hm
  obtain ⟨z0, w0⟩ : ∃ zs, IsRow .i64 W a0 len0 cap0 zs := by
    obtain ⟨fuel, hf⟩ := h0
    rcases open_ints Tryd.underlying22 Tryd.underlying3 (by kernel_rfl) hf with ⟨hcs, _⟩ | ⟨x, l, c, zs, hcs, _, hl, hm, hz, _, hcell, hwz⟩
    · simp [Value.cells] at hcs
      obtain ⟨rfl, rfl, rfl⟩ := hcs
      exact ⟨[], .inl ⟨rfl, rfl, rfl, rfl⟩⟩
    · simp [Value.cells] at hcs
      obtain ⟨rfl, rfl, rfl⟩ := hcs
      exact ⟨zs, .inr ⟨_, rfl, hl, hm, by simpa using hz, hcell, hwz⟩⟩
  have y0 : len0 * 8 ≤ 140737488351232 := Go.Proofs.YtdlbmbijobcljaaDoorW.PrintWords.sized_ints hsz (j := 0) (t := 22) rfl rfl Tryd.underlying22 Tryd.underlying3 (by kernel_rfl) (by kernel_rfl) h0
  obtain ⟨a1, len1, cap1, rfl⟩ := okWide_slice Tryd.underlying22 (hval 1 22 v1 rfl rfl)
  have k1 := h1
  have lt1 : ∀ x ∈ p1, x.block < W.heap.size := by obtain ⟨m, hm⟩ := k1; exact DataW.trod_lt m _ _ _ hm
  obtain ⟨z1, w1⟩ : ∃ zs, IsRow .i64 W a1 len1 cap1 zs := by
    obtain ⟨fuel, hf⟩ := h1
    rcases open_ints Tryd.underlying22 Tryd.underlying3 (by kernel_rfl) hf with ⟨hcs, _⟩ | ⟨x, l, c, zs, hcs, _, hl, hm, hz, _, hcell, hwz⟩
    · simp [Value.cells] at hcs
      obtain ⟨rfl, rfl, rfl⟩ := hcs
      exact ⟨[], .inl ⟨rfl, rfl, rfl, rfl⟩⟩
    · simp [Value.cells] at hcs
      obtain ⟨rfl, rfl, rfl⟩ := hcs
      exact ⟨zs, .inr ⟨_, rfl, hl, hm, by simpa using hz, hcell, hwz⟩⟩
  have y1 : len1 * 8 ≤ 140737488351232 := Go.Proofs.YtdlbmbijobcljaaDoorW.PrintWords.sized_ints hsz (j := 1) (t := 22) rfl rfl Tryd.underlying22 Tryd.underlying3 (by kernel_rfl) (by kernel_rfl) h1
  clear hA0 hval0 hsz0 hsz
  refine (X.earshotlaw03_FeatureBands.walk Pure.FeatureBands a0 len0 cap0 z0 a1 len1 cap1 z1 W ht w0 y0 w1 y1).mono fun e W' ⟨he, bel⟩ => ?_
  subst he
  exact ⟨_, rfl, _, _, _, [], _, [], hW', trodAll_mk1 (shut_bool Tryd.underlying4 _), (trodAll_cons_mk (Below.trod laidOut (by kernel_rfl) (of_decide_eq_true (by kernel_rfl)) k0 bel lt0) (trodAll_cons_mk (Below.trod laidOut (by kernel_rfl) (of_decide_eq_true (by kernel_rfl)) k1 bel lt1) trodAll_mk0)), rfl, bel.frame _, fun h => by cases h⟩
theorem closed : joinedFacts Tryd.prog 16 Tryd.f16 Rows.featureBandsSpec Rows.featureBandsRow = true :=
  joined_of rfl rfl rfl (by kernel_rfl) (by kernel_rfl) (by kernel_rfl) (by kernel_rfl) (by kernel_rfl) (by kernel_rfl) (by kernel_rfl) (by kernel_rfl) (by kernel_rfl) (by kernel_rfl) (by kernel_rfl) (by kernel_rfl) (by kernel_rfl) (by kernel_rfl) (by kernel_rfl) (by kernel_rfl) (by kernel_rfl) (by kernel_rfl) (by kernel_rfl) (by kernel_rfl) (by kernel_rfl) (by kernel_rfl) (by kernel_rfl)
theorem over : Rows.featureBandsRow.holds Tryd.pinned (OpenSpec.ofChange Rows.featureBandsSpec) :=
  OpenClaim.holds_of_wide 16 Tryd.f16 rfl rfl rfl rfl rfl rfl rfl ⟨rfl, rfl, rfl, rfl, rfl⟩ rfl rfl rfl rfl rfl (by kernel_rfl) Tryd.func16 closed
    (of_decide_eq_true (by kernel_rfl)) (by unfold Func.isWrapper; first | (rw [if_pos (by decide +kernel)]; kernel_rfl) | (rw [if_neg (by decide +kernel)]; exact ⟨rfl, rfl⟩))
    (fun os started H enc _ => lifted os started H enc)
theorem proved : Rows.FeatureBandsSaid := over
end Go.Proofs.YtdlbmbijobcljaaDoor.featureBands
namespace Go.Proofs.YtdlbmbijobcljaaDoor
/-- The row, under a short name, for the claim. -/
theorem featureBands_holds : Rows.FeatureBandsSaid := featureBands.proved
/-- THE TIED CARD. -/
theorem featureBands_card : Rows.FeatureBandsCardSaid :=
  Claim7.holds_tied_plain_at .later [] [.data] true (true, "113a42d89db8992b3819bea1327673c10f2f9c06b5576fb37f9626d51ac793bb") false
    featureBands_holds (fun _ h => by cases h) (by kernel_rfl) (fun _ h => by cases h) featureBands_row_tie rfl ⟨rfl, rfl⟩ jMain rfl
    (fun f fn hf hfn => by
      obtain rfl : f = 16 := Option.some.inj ((show Tryd.prog.funcNamed "earshot/earshotlaw03.FeatureBands" = some 16 by kernel_rfl).symm.trans hf) |>.symm
      obtain rfl : fn = Tryd.f16 := (Option.some.inj (Tryd.func16.symm.trans hfn)).symm
      exact ⟨by kernel_rfl, fun j t ht => by
        rw [Tryd.params16] at ht
        have hm : t ∈ [22, 22] := by simpa using Array.mem_of_getElem? ht
        have hall : ([22, 22].all fun u => !Tryd.prog.wantsStandIn u) = true := by kernel_rfl
        exact (show Tryd.prog.wantsStandIn t = false by simpa using List.all_eq_true.1 hall t hm)⟩)
    (by kernel_rfl)
end Go.Proofs.YtdlbmbijobcljaaDoor
