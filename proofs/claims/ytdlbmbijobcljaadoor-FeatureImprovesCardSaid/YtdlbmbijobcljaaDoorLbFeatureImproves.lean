/- Merged by a program of this session's own (wip/print/merge.py): X19, X24, PBase, PVec, X27, PInv, X53, PTrans, X54, X50, PSpec, PMean, PNear, X38, X62, X65. No law stands here; conditions: none. -/
import Derived.Test.YtdlbmbijobcljaaDoorMA
import Derived.Test.YtdlbmbijobcljaaDoorMK
import Derived.Test.YtdlbmbijobcljaaDoorMB
import Derived.Test.YtdlbmbijobcljaaDoorLaFeatureImproves
namespace Go.Proofs.YtdlbmbijobcljaaDoor.X
open Go.RowKit Go.Proofs.YtdlbmbijobcljaaDoorW.PrintWords Go.Proofs.YtdlbmbijobcljaaDoorW.PrintLast Go.Proofs.YtdlbmbijobcljaaDoorW.PrintMore
attribute [local go_sem] max2_int min2_int max_two min_two max_three min_three max_four min_four   -- for this text's walks alone
set_option linter.unusedVariables false
set_option linter.unusedSimpArgs false
/-! ### earshotlaw03_FeatureImproves: function 19 -/
mutual
def earshotlaw03_FeatureImproves.j0 : Nat → List (List Int) → List (List Int) → Int → Bool → Option (Bool)
 | 0, _, _, _, _ => none
 | k + 1, x0, x1, x2, x35 => if x35 = true then ((earshotlaw03_known.f k).bind fun t103 => (some t103)) else ((feature_Improve.f k x0 x1).bind fun bt104 => ((feature_Train.f k x0 x1 x2).bind fun bt108 => ((earshotref03_Fits.f k x0 x1).bind fun t113 => (if t113 = 0 then (if bt104.2 = 0 then ((earshotref03_Improve.f k x0 x1).bind fun t115 => ((earshotref02_SameLists.f k bt104.1 t115).bind fun t118 => (earshotlaw03_FeatureImproves.j1 k x0 x1 x2 bt108.1 bt108.2.1 bt108.2.2 (!t118)))) else (earshotlaw03_FeatureImproves.j1 k x0 x1 x2 bt108.1 bt108.2.1 bt108.2.2 true)) else (if bt104.2 = t113 then (if bt108.2.2 = t113 then (if (bt104.1.length : Int) = 0 then (if (bt108.1.length : Int) = 0 then (if bt108.2.1 = 0 then ((earshotlaw03_known.f k).bind fun t114 => (some t114)) else (some false)) else (some false)) else (some false)) else (some false)) else (some false))))))
def earshotlaw03_FeatureImproves.j1 : Nat → List (List Int) → List (List Int) → Int → List (List Int) → Int → Int → Bool → Option (Bool)
 | 0, _, _, _, _, _, _, _ => none
 | k + 1, x0, x1, x2, x9, x10, x11, x90 => if x90 = true then (some false) else (if x2 < 0 then (earshotlaw03_FeatureImproves.j2 k x0 x1 x2 x9 x10 x11 true) else (earshotlaw03_FeatureImproves.j2 k x0 x1 x2 x9 x10 x11 (decide (x2 > 1000))))
def earshotlaw03_FeatureImproves.j2 : Nat → List (List Int) → List (List Int) → Int → List (List Int) → Int → Int → Bool → Option (Bool)
 | 0, _, _, _, _, _, _, _ => none
 | k + 1, x0, x1, x2, x9, x10, x11, x96 => if x96 = true then (if x11 = 2 then (if (x9.length : Int) = 0 then (if x10 = 0 then ((earshotlaw03_known.f k).bind fun t119 => (some t119)) else (some false)) else (some false)) else (some false)) else ((earshotref03_Train.f k x0 x1 x2).bind fun bt120 => (if x11 = 0 then (if x10 = bt120.2 then ((earshotref02_SameLists.f k x9 bt120.1).bind fun t124 => (if t124 = true then ((earshotlaw03_known.f k).bind fun t125 => (some t125)) else (some false))) else (some false)) else (some false)))
end
def earshotlaw03_FeatureImproves.f (k : Nat) (l0 : List (List Int)) (l1 : List (List Int)) (a2 : Int) : Option (Bool) := (earshotlaw03_few.f k l0 30).bind fun t101 => (if t101 = true then ((earshotlaw03_few.f k l1 12).bind fun t102 => (if t102 = true then (if (l1.length : Int) > 12 then (earshotlaw03_FeatureImproves.j0 k l0 l1 a2 true) else (if a2 > 20 then (earshotlaw03_FeatureImproves.j0 k l0 l1 a2 (decide (a2 ≤ 1000))) else (earshotlaw03_FeatureImproves.j0 k l0 l1 a2 false))) else (earshotlaw03_FeatureImproves.j0 k l0 l1 a2 true))) else (earshotlaw03_FeatureImproves.j0 k l0 l1 a2 true))
theorem earshotlaw03_FeatureImproves.mono_l : ∀ k, (∀ y0 y1 y2 y3, LeO (earshotlaw03_FeatureImproves.j0 k y0 y1 y2 y3) (earshotlaw03_FeatureImproves.j0 (k + 1) y0 y1 y2 y3)) ∧ (∀ y0 y1 y2 y3 y4 y5 y6, LeO (earshotlaw03_FeatureImproves.j1 k y0 y1 y2 y3 y4 y5 y6) (earshotlaw03_FeatureImproves.j1 (k + 1) y0 y1 y2 y3 y4 y5 y6)) ∧ (∀ y0 y1 y2 y3 y4 y5 y6, LeO (earshotlaw03_FeatureImproves.j2 k y0 y1 y2 y3 y4 y5 y6) (earshotlaw03_FeatureImproves.j2 (k + 1) y0 y1 y2 y3 y4 y5 y6))
 | 0 => ⟨fun _ _ _ _ r h => by simp [earshotlaw03_FeatureImproves.j0] at h, fun _ _ _ _ _ _ _ r h => by simp [earshotlaw03_FeatureImproves.j1] at h, fun _ _ _ _ _ _ _ r h => by simp [earshotlaw03_FeatureImproves.j2] at h⟩
 | k + 1 => by
  obtain ⟨ih0, ih1, ih2⟩ := earshotlaw03_FeatureImproves.mono_l k
  refine ⟨?_, ?_, ?_⟩
  ·intro y0 y1 y2 y3
   unfold earshotlaw03_FeatureImproves.j0
   repeat' first
   | (with_reducible exact ih0 _ _ _ _)
   | (with_reducible exact ih1 _ _ _ _ _ _ _)
   | (with_reducible exact ih2 _ _ _ _ _ _ _)
   | (with_reducible exact earshotlaw03_few.mono _ _ _)
   | (with_reducible exact earshotlaw03_known.mono _)
   | (with_reducible exact earshotref02_SameLists.mono _ _ _)
   | (with_reducible exact earshotref03_Fits.mono _ _ _)
   | (with_reducible exact earshotref03_Improve.mono _ _ _)
   | (with_reducible exact earshotref03_Train.mono _ _ _ _)
   | (with_reducible exact feature_Improve.mono _ _ _)
   | (with_reducible exact feature_Train.mono _ _ _ _)
   | (with_reducible exact LeO.refl _)
   | (with_reducible exact LeO.none _)
   | (with_reducible refine LeO.ite ?_ ?_)
   | (with_reducible refine LeO.bind ?_ (fun _ => ?_))
   | exact ih0 _ _ _ _
   | exact ih1 _ _ _ _ _ _ _
   | exact ih2 _ _ _ _ _ _ _
   | exact earshotlaw03_few.mono _ _ _
   | exact earshotlaw03_known.mono _
   | exact earshotref02_SameLists.mono _ _ _
   | exact earshotref03_Fits.mono _ _ _
   | exact earshotref03_Improve.mono _ _ _
   | exact earshotref03_Train.mono _ _ _ _
   | exact feature_Improve.mono _ _ _
   | exact feature_Train.mono _ _ _ _
   | exact LeO.none _
   | refine LeO.ite ?_ ?_
   | refine LeO.bind ?_ (fun _ => ?_)
  ·intro y0 y1 y2 y3 y4 y5 y6
   unfold earshotlaw03_FeatureImproves.j1
   repeat' first
   | (with_reducible exact ih0 _ _ _ _)
   | (with_reducible exact ih1 _ _ _ _ _ _ _)
   | (with_reducible exact ih2 _ _ _ _ _ _ _)
   | (with_reducible exact earshotlaw03_few.mono _ _ _)
   | (with_reducible exact earshotlaw03_known.mono _)
   | (with_reducible exact earshotref02_SameLists.mono _ _ _)
   | (with_reducible exact earshotref03_Fits.mono _ _ _)
   | (with_reducible exact earshotref03_Improve.mono _ _ _)
   | (with_reducible exact earshotref03_Train.mono _ _ _ _)
   | (with_reducible exact feature_Improve.mono _ _ _)
   | (with_reducible exact feature_Train.mono _ _ _ _)
   | (with_reducible exact LeO.refl _)
   | (with_reducible exact LeO.none _)
   | (with_reducible refine LeO.ite ?_ ?_)
   | (with_reducible refine LeO.bind ?_ (fun _ => ?_))
   | exact ih0 _ _ _ _
   | exact ih1 _ _ _ _ _ _ _
   | exact ih2 _ _ _ _ _ _ _
   | exact earshotlaw03_few.mono _ _ _
   | exact earshotlaw03_known.mono _
   | exact earshotref02_SameLists.mono _ _ _
   | exact earshotref03_Fits.mono _ _ _
   | exact earshotref03_Improve.mono _ _ _
   | exact earshotref03_Train.mono _ _ _ _
   | exact feature_Improve.mono _ _ _
   | exact feature_Train.mono _ _ _ _
   | exact LeO.none _
   | refine LeO.ite ?_ ?_
   | refine LeO.bind ?_ (fun _ => ?_)
  ·intro y0 y1 y2 y3 y4 y5 y6
   unfold earshotlaw03_FeatureImproves.j2
   repeat' first
   | (with_reducible exact ih0 _ _ _ _)
   | (with_reducible exact ih1 _ _ _ _ _ _ _)
   | (with_reducible exact ih2 _ _ _ _ _ _ _)
   | (with_reducible exact earshotlaw03_few.mono _ _ _)
   | (with_reducible exact earshotlaw03_known.mono _)
   | (with_reducible exact earshotref02_SameLists.mono _ _ _)
   | (with_reducible exact earshotref03_Fits.mono _ _ _)
   | (with_reducible exact earshotref03_Improve.mono _ _ _)
   | (with_reducible exact earshotref03_Train.mono _ _ _ _)
   | (with_reducible exact feature_Improve.mono _ _ _)
   | (with_reducible exact feature_Train.mono _ _ _ _)
   | (with_reducible exact LeO.refl _)
   | (with_reducible exact LeO.none _)
   | (with_reducible refine LeO.ite ?_ ?_)
   | (with_reducible refine LeO.bind ?_ (fun _ => ?_))
   | exact ih0 _ _ _ _
   | exact ih1 _ _ _ _ _ _ _
   | exact ih2 _ _ _ _ _ _ _
   | exact earshotlaw03_few.mono _ _ _
   | exact earshotlaw03_known.mono _
   | exact earshotref02_SameLists.mono _ _ _
   | exact earshotref03_Fits.mono _ _ _
   | exact earshotref03_Improve.mono _ _ _
   | exact earshotref03_Train.mono _ _ _ _
   | exact feature_Improve.mono _ _ _
   | exact feature_Train.mono _ _ _ _
   | exact LeO.none _
   | refine LeO.ite ?_ ?_
   | refine LeO.bind ?_ (fun _ => ?_)
theorem earshotlaw03_FeatureImproves.mono : ∀ a0 a1 a2 k, LeO (earshotlaw03_FeatureImproves.f k a0 a1 a2) (earshotlaw03_FeatureImproves.f (k + 1) a0 a1 a2) := by
 intro a0 a1 a2 k
 obtain ⟨ih0, ih1, ih2⟩ := earshotlaw03_FeatureImproves.mono_l k
 unfold earshotlaw03_FeatureImproves.f
 repeat' first
   | (with_reducible exact ih0 _ _ _ _)
   | (with_reducible exact ih1 _ _ _ _ _ _ _)
   | (with_reducible exact ih2 _ _ _ _ _ _ _)
   | (with_reducible exact earshotlaw03_few.mono _ _ _)
   | (with_reducible exact earshotlaw03_known.mono _)
   | (with_reducible exact earshotref02_SameLists.mono _ _ _)
   | (with_reducible exact earshotref03_Fits.mono _ _ _)
   | (with_reducible exact earshotref03_Improve.mono _ _ _)
   | (with_reducible exact earshotref03_Train.mono _ _ _ _)
   | (with_reducible exact feature_Improve.mono _ _ _)
   | (with_reducible exact feature_Train.mono _ _ _ _)
   | (with_reducible exact LeO.refl _)
   | (with_reducible exact LeO.none _)
   | (with_reducible refine LeO.ite ?_ ?_)
   | (with_reducible refine LeO.bind ?_ (fun _ => ?_))
   | exact ih0 _ _ _ _
   | exact ih1 _ _ _ _ _ _ _
   | exact ih2 _ _ _ _ _ _ _
   | exact earshotlaw03_few.mono _ _ _
   | exact earshotlaw03_known.mono _
   | exact earshotref02_SameLists.mono _ _ _
   | exact earshotref03_Fits.mono _ _ _
   | exact earshotref03_Improve.mono _ _ _
   | exact earshotref03_Train.mono _ _ _ _
   | exact feature_Improve.mono _ _ _
   | exact feature_Train.mono _ _ _ _
   | exact LeO.none _
   | refine LeO.ite ?_ ?_
   | refine LeO.bind ?_ (fun _ => ?_)
set_option maxHeartbeats 8000000 in
set_option maxRecDepth 100000 in
theorem earshotlaw03_FeatureImproves.calls (k : Nat) (A0 : Option Addr) (c0 : Nat) (l0 : List (List Int)) (A1 : Option Addr) (c1 : Nat) (l1 : List (List Int)) (a2 : Int) (r : Bool) (w : World) (ht : Kd.C (Kd.int .i64) w (some ⟨0, 0, none⟩) 65 tabL) (hr0 : Kd.C (Kd.slice 3 (Kd.int .i64)) w A0 l0.length l0) (hc0 : l0.length ≤ c0) (hr1 : Kd.C (Kd.slice 3 (Kd.int .i64)) w A1 l1.length l1) (hc1 : l1.length ≤ c1) (h : earshotlaw03_FeatureImproves.f k l0 l1 a2 = some r) :
  Calls Tryd.prog 19 #[.slice A0 l0.length c0, .slice A1 l1.length c1, .int .i64 a2] w fun e w' => e = .returned (.bool r) ∧ Below w.heap.size w w' := by
 have HRT := Aside0.mk ht
 clear ht
 have HR0 := Aside0.mk hr0
 have HC0 := Aside0.mk hc0
 clear hr0 hc0
 have HR1 := Aside0.mk hr1
 have HC1 := Aside0.mk hc1
 clear hr1 hc1
 have HB := Aside0.mk (Below.refl w.heap.size w)
 have H : ((earshotlaw03_few.f k l0 30).bind fun t101 => (if t101 = true then ((earshotlaw03_few.f k l1 12).bind fun t102 => (if t102 = true then (if (l1.length : Int) > 12 then (earshotlaw03_FeatureImproves.j0 k l0 l1 a2 true) else (if a2 > 20 then (earshotlaw03_FeatureImproves.j0 k l0 l1 a2 (decide (a2 ≤ 1000))) else (earshotlaw03_FeatureImproves.j0 k l0 l1 a2 false))) else (earshotlaw03_FeatureImproves.j0 k l0 l1 a2 true))) else (earshotlaw03_FeatureImproves.j0 k l0 l1 a2 true))) = some r := h
 clear h
 have HC4 := Aside0.mk H
 clear H
 go_enter Tryd.func19, Tryd.ntmps19
 go_upto_region 1 with (fail)
 go_cut [35] (fun v35 wc => ∃ (kq : Nat) (x35_3 : Bool), v35 = .bool x35_3 ∧ Aside0 (earshotlaw03_FeatureImproves.j0 kq l0 l1 a2 x35_3 = some r) ∧ Aside0 (kq ≤ k) ∧ Aside0 (Below w.heap.size w wc))
 case first =>
  as_aux_lemma =>
  have H := HC4.out
  clear HC4
  replace H := Option.bind_eq_some_iff.mp H
  obtain ⟨t101, A50, H⟩ := H
  try dsimp only at H
  have A5 := Aside0.mk A50
  clear A50
  by_cases c6 : t101 = true
  ·subst c6
   have H1 : ((earshotlaw03_few.f k l1 12).bind fun t102 => (if t102 = true then (if (l1.length : Int) > 12 then (earshotlaw03_FeatureImproves.j0 k l0 l1 a2 true) else (if a2 > 20 then (earshotlaw03_FeatureImproves.j0 k l0 l1 a2 (decide (a2 ≤ 1000))) else (earshotlaw03_FeatureImproves.j0 k l0 l1 a2 false))) else (earshotlaw03_FeatureImproves.j0 k l0 l1 a2 true))) = some r := by rw [if_pos rfl] at H; exact H
   clear H
   have H := H1
   clear H1
   replace H := Option.bind_eq_some_iff.mp H
   obtain ⟨t102, A70, H⟩ := H
   try dsimp only at H
   have A7 := Aside0.mk A70
   clear A70
   by_cases c8 : t102 = true
   ·subst c8
    have H1 : (if (l1.length : Int) > 12 then (earshotlaw03_FeatureImproves.j0 k l0 l1 a2 true) else (if a2 > 20 then (earshotlaw03_FeatureImproves.j0 k l0 l1 a2 (decide (a2 ≤ 1000))) else (earshotlaw03_FeatureImproves.j0 k l0 l1 a2 false))) = some r := by rw [if_pos rfl] at H; exact H
    clear H
    have H := H1
    clear H1
    by_cases c9 : (l1.length : Int) > 12
    ·rw [if_pos c9] at H
     have c9b0 : decide (12 < (l1.length : Int)) = true := decide_eq_true c9
     have c9b1 : decide (12 < l1.length) = true := decide_eq_true (by omega)
     clear c9
     (first | rw [c9b0] | (simp only [i64_w, i32_w]; rw [c9b0]) | skip)
     have H' := Aside0.mk H
     clear H
     go_wp2_with (first | ((with_reducible refine gate_callee (f := 55) rfl ?_); refine goesL_ (some 16) rfl rfl Tryd.func55 (by kernel_rfl) rfl #[.slice A0 l0.length c0, .int .i64 30] rfl tL ?_; (with_reducible refine (earshotlaw03_few.calls k _ _ l0 30 true _ ?side1 ?side2 A5.out).mono ?_); (case side1 => exact tC (Kd.C_below HR0.out HB.out)); (case side2 => exact HC0.out); rintro e w' ⟨rfl, ⟨nd, rfl⟩⟩; refine ⟨_, rfl, ?_⟩) | (go_at_call 55; (with_reducible refine (earshotlaw03_few.calls k _ _ l1 12 true _ ?side1 ?side2 A7.out).mono ?_); (case side1 => exact tC (Kd.C_below HR1.out tB)); (case side2 => exact HC1.out); rintro e w' ⟨rfl, ⟨nd, rfl⟩⟩))
     go_meet
     case rel => exact ⟨_, (true), (by first | rfl | (simp; done) | (simp only [i64_w]; done) | (simp [*]; done)), H', ⟨by first | omega | exact Nat.le_refl _⟩, ⟨tB⟩⟩
    ·rw [if_neg c9] at H
     have c9b0 : decide (12 < (l1.length : Int)) = false := decide_eq_false c9
     have c9b1 : decide (12 < l1.length) = false := decide_eq_false (by omega)
     clear c9
     (first | rw [c9b0] | (simp only [i64_w, i32_w]; rw [c9b0]) | skip)
     by_cases c10 : a2 > 20
     ·rw [if_pos c10] at H
      have c10b0 : decide (20 < a2) = true := decide_eq_true c10
      clear c10
      have H' := Aside0.mk H
      clear H
      go_wp2_with (first | ((with_reducible refine gate_callee (f := 55) rfl ?_); refine goesL_ (some 16) rfl rfl Tryd.func55 (by kernel_rfl) rfl #[.slice A0 l0.length c0, .int .i64 30] rfl tL ?_; (with_reducible refine (earshotlaw03_few.calls k _ _ l0 30 true _ ?side1 ?side2 A5.out).mono ?_); (case side1 => exact tC (Kd.C_below HR0.out HB.out)); (case side2 => exact HC0.out); rintro e w' ⟨rfl, ⟨nd, rfl⟩⟩; refine ⟨_, rfl, ?_⟩) | (go_at_call 55; (with_reducible refine (earshotlaw03_few.calls k _ _ l1 12 true _ ?side1 ?side2 A7.out).mono ?_); (case side1 => exact tC (Kd.C_below HR1.out tB)); (case side2 => exact HC1.out); rintro e w' ⟨rfl, ⟨nd, rfl⟩⟩))
      go_meet
      case rel => exact ⟨_, (decide (a2 ≤ 1000)), (by first | rfl | (simp; done) | (simp only [i64_w]; done) | (simp [*]; done)), H', ⟨by first | omega | exact Nat.le_refl _⟩, ⟨tB⟩⟩
     ·rw [if_neg c10] at H
      have c10b0 : decide (20 < a2) = false := decide_eq_false c10
      clear c10
      have H' := Aside0.mk H
      clear H
      go_wp2_with (first | ((with_reducible refine gate_callee (f := 55) rfl ?_); refine goesL_ (some 16) rfl rfl Tryd.func55 (by kernel_rfl) rfl #[.slice A0 l0.length c0, .int .i64 30] rfl tL ?_; (with_reducible refine (earshotlaw03_few.calls k _ _ l0 30 true _ ?side1 ?side2 A5.out).mono ?_); (case side1 => exact tC (Kd.C_below HR0.out HB.out)); (case side2 => exact HC0.out); rintro e w' ⟨rfl, ⟨nd, rfl⟩⟩; refine ⟨_, rfl, ?_⟩) | (go_at_call 55; (with_reducible refine (earshotlaw03_few.calls k _ _ l1 12 true _ ?side1 ?side2 A7.out).mono ?_); (case side1 => exact tC (Kd.C_below HR1.out tB)); (case side2 => exact HC1.out); rintro e w' ⟨rfl, ⟨nd, rfl⟩⟩))
      go_meet
      case rel => exact ⟨_, (false), (by first | rfl | (simp; done) | (simp only [i64_w]; done) | (simp [*]; done)), H', ⟨by first | omega | exact Nat.le_refl _⟩, ⟨tB⟩⟩
   ·replace c8 := Bool.eq_false_iff.mpr c8
    subst c8
    have H1 : (earshotlaw03_FeatureImproves.j0 k l0 l1 a2 true) = some r := by rw [if_neg (show ¬ (false = true) by decide)] at H; exact H
    clear H
    have H := H1
    clear H1
    have H' := Aside0.mk H
    clear H
    go_wp2_with (first | ((with_reducible refine gate_callee (f := 55) rfl ?_); refine goesL_ (some 16) rfl rfl Tryd.func55 (by kernel_rfl) rfl #[.slice A0 l0.length c0, .int .i64 30] rfl tL ?_; (with_reducible refine (earshotlaw03_few.calls k _ _ l0 30 true _ ?side1 ?side2 A5.out).mono ?_); (case side1 => exact tC (Kd.C_below HR0.out HB.out)); (case side2 => exact HC0.out); rintro e w' ⟨rfl, ⟨nd, rfl⟩⟩; refine ⟨_, rfl, ?_⟩) | (go_at_call 55; (with_reducible refine (earshotlaw03_few.calls k _ _ l1 12 false _ ?side1 ?side2 A7.out).mono ?_); (case side1 => exact tC (Kd.C_below HR1.out tB)); (case side2 => exact HC1.out); rintro e w' ⟨rfl, ⟨nd, rfl⟩⟩))
    go_meet
    case rel => exact ⟨_, (true), (by first | rfl | (simp; done) | (simp only [i64_w]; done) | (simp [*]; done)), H', ⟨by first | omega | exact Nat.le_refl _⟩, ⟨tB⟩⟩
  ·replace c6 := Bool.eq_false_iff.mpr c6
   subst c6
   have H1 : (earshotlaw03_FeatureImproves.j0 k l0 l1 a2 true) = some r := by rw [if_neg (show ¬ (false = true) by decide)] at H; exact H
   clear H
   have H := H1
   clear H1
   have H' := Aside0.mk H
   clear H
   go_wp2_with (first | ((with_reducible refine gate_callee (f := 55) rfl ?_); refine goesL_ (some 16) rfl rfl Tryd.func55 (by kernel_rfl) rfl #[.slice A0 l0.length c0, .int .i64 30] rfl tL ?_; (with_reducible refine (earshotlaw03_few.calls k _ _ l0 30 false _ ?side1 ?side2 A5.out).mono ?_); (case side1 => exact tC (Kd.C_below HR0.out HB.out)); (case side2 => exact HC0.out); rintro e w' ⟨rfl, ⟨nd, rfl⟩⟩; refine ⟨_, rfl, ?_⟩))
   go_meet
   case rel => exact ⟨_, (true), (by first | rfl | (simp; done) | (simp only [i64_w]; done) | (simp [*]; done)), H', ⟨by first | omega | exact Nat.le_refl _⟩, ⟨tB⟩⟩
 case rest =>
  as_aux_lemma =>
  clear HC4
  try clear c1
  try clear p2
  try clear c5
  try clear c6
  try clear c8
  try clear c9
  try clear c9b0
  try clear c9b1
  try clear c10
  try clear c10b0
  obtain ⟨kq, x35_3, rfl, HA, HJ3, HB⟩ := hcut
  cases kq with
  | zero => exact absurd HA.out (by simp [earshotlaw03_FeatureImproves.j0])
  | succ kj3 =>
   have H := HA.out
   clear HA
   simp only [earshotlaw03_FeatureImproves.j0] at H
   by_cases c11 : x35_3 = true
   ·subst c11
    have H1 : ((earshotlaw03_known.f kj3).bind fun t103 => (some t103)) = some r := by rw [if_pos rfl] at H; exact H
    clear H
    have H := H1
    clear H1
    replace H := Option.bind_eq_some_iff.mp H
    obtain ⟨t103, A120, H⟩ := H
    try dsimp only at H
    have A12 := Aside0.mk A120
    clear A120
    obtain rfl := Option.some.inj H
    go_wp2_with (first | ((with_reducible refine gate_callee (f := 22) rfl ?_); refine goesL_ (some 36) rfl rfl Tryd.func22 (by kernel_rfl) rfl #[] rfl tL ?_; (with_reducible refine (earshotlaw03_known.calls kj3  t103 _ ?side1 A12.out).mono ?_); (case side1 => exact tC (Kd.C_below HRT.out HB.out)); rintro e w13 ⟨rfl, hb⟩; refine ⟨_, rfl, ?_⟩; have n0_ := Aside0.mk (below_step tB hb); clear HB; have HB := n0_; clear n0_; (try clear hb); (try clear hb2); (try clear hk); (try clear hi)))
    go_ret
    exact ⟨by first | rfl | (simp [errW_none, errW_some] <;> rfl) | (simp [*, errW_none, errW_some] <;> rfl), tB⟩
   ·replace c11 := Bool.eq_false_iff.mpr c11
    subst c11
    have H1 : ((feature_Improve.f kj3 l0 l1).bind fun bt104 => ((feature_Train.f kj3 l0 l1 a2).bind fun bt108 => ((earshotref03_Fits.f kj3 l0 l1).bind fun t113 => (if t113 = 0 then (if bt104.2 = 0 then ((earshotref03_Improve.f kj3 l0 l1).bind fun t115 => ((earshotref02_SameLists.f kj3 bt104.1 t115).bind fun t118 => (earshotlaw03_FeatureImproves.j1 kj3 l0 l1 a2 bt108.1 bt108.2.1 bt108.2.2 (!t118)))) else (earshotlaw03_FeatureImproves.j1 kj3 l0 l1 a2 bt108.1 bt108.2.1 bt108.2.2 true)) else (if bt104.2 = t113 then (if bt108.2.2 = t113 then (if (bt104.1.length : Int) = 0 then (if (bt108.1.length : Int) = 0 then (if bt108.2.1 = 0 then ((earshotlaw03_known.f kj3).bind fun t114 => (some t114)) else (some false)) else (some false)) else (some false)) else (some false)) else (some false)))))) = some r := by rw [if_neg (show ¬ (false = true) by decide)] at H; exact H
    clear H
    have H := H1
    clear H1
    replace H := Option.bind_eq_some_iff.mp H
    obtain ⟨⟨t104, t105⟩, A140, H⟩ := H
    try dsimp only at H
    have A14 := Aside0.mk A140
    clear A140
    replace H := Option.bind_eq_some_iff.mp H
    obtain ⟨⟨t108, t109, t110⟩, A150, H⟩ := H
    try dsimp only at H
    have A15 := Aside0.mk A150
    clear A150
    replace H := Option.bind_eq_some_iff.mp H
    obtain ⟨t113, A160, H⟩ := H
    try dsimp only at H
    have A16 := Aside0.mk A160
    clear A160
    by_cases c17 : t113 = 0
    ·rw [if_pos c17] at H
     have c17b0 : (t113 == 0) = true := beq_iff_eq.mpr c17
     have c17b1 : (t113 != 0) = false := bne_eq_false_iff_eq.mpr c17
     clear c17
     have HC18 := Aside0.mk H
     clear H
     go_upto_region 8 with (first | ((with_reducible refine gate_callee (f := 75) rfl ?_); refine goesL_ (some 40) rfl rfl Tryd.func75 (by kernel_rfl) rfl #[.slice A0 l0.length c0, .slice A1 l1.length c1] rfl tL ?_; (with_reducible refine (feature_Improve.calls kj3 _ _ l0 _ _ l1 t104 t105 _ ?side1 ?side2 ?side3 ?side4 A14.out).mono ?_); (case side1 => exact tC (Kd.C_below HR0.out HB.out)); (case side2 => exact HC0.out); (case side3 => exact tC (Kd.C_below HR1.out HB.out)); (case side4 => exact HC1.out); rintro e w19 ⟨v106, rfl, ho0, hb⟩; refine ⟨_, rfl, ?_⟩; have n0_ := Aside0.mk (Kd.N_lower (Kd.N_mono (ok' := fun k_ => True) (Kd.S_N (Kd.S_bound ho0)) (fun k_ hk_ => trivial)) (below_size tB)); have n1_ := Aside0.mk (below_step tB hb); clear HB; have HO107 := n0_; have HB := n1_; clear n0_ n1_; (try clear hb); (try clear hb2); (try clear hk); (try clear hi); (try clear ho0)) | ((with_reducible refine gate_callee (f := 76) rfl ?_); refine goesL_ (some 47) rfl rfl Tryd.func76 (by kernel_rfl) rfl #[.slice A0 l0.length c0, .slice A1 l1.length c1, .int .i64 a2] rfl tL ?_; (with_reducible refine (feature_Train.calls kj3 _ _ l0 _ _ l1 a2 t108 t109 t110 _ ?side1 ?side2 ?side3 ?side4 A15.out).mono ?_); (case side1 => exact tC (Kd.C_below HR0.out HB.out)); (case side2 => exact HC0.out); (case side3 => exact tC (Kd.C_below HR1.out HB.out)); (case side4 => exact HC1.out); rintro e w20 ⟨v111, rfl, ho0, hb⟩; refine ⟨_, rfl, ?_⟩; have n0_ := Aside0.mk (Kd.N_elder' (tN HO107.out) (Kd.N_base (Kd.S_N ho0)) hb); have n1_ := Aside0.mk (Kd.N_lower (Kd.N_mono (ok' := fun k_ => some k_ ≠ (v106 : Value).ownBlock) (Kd.S_N (Kd.S_bound ho0)) (fun k_ hk_ => (Kd.fresh' (Kd.N_lt (tN HO107.out)) k_ hk_.2.1))) (below_size tB)); have n2_ := Aside0.mk (below_step tB hb); clear HO107; clear HB; have HO107 := n0_; have HO112 := n1_; have HB := n2_; clear n0_ n1_ n2_; (try clear hb); (try clear hb2); (try clear hk); (try clear hi); (try clear ho0)) | ((with_reducible refine gate_callee (f := 63) rfl ?_); refine goesL_ (some 53) rfl rfl Tryd.func63 (by kernel_rfl) rfl #[.slice A0 l0.length c0, .slice A1 l1.length c1] rfl tL ?_; (with_reducible refine (earshotref03_Fits.calls kj3 _ _ l0 _ _ l1 t113 _ ?side1 ?side2 ?side3 ?side4 A16.out).mono ?_); (case side1 => exact tC (Kd.C_below HR0.out HB.out)); (case side2 => exact HC0.out); (case side3 => exact tC (Kd.C_below HR1.out HB.out)); (case side4 => exact HC1.out); rintro e w21 ⟨rfl, hb⟩; refine ⟨_, rfl, ?_⟩; have n0_ := Aside0.mk (Kd.N_below (tN HO107.out) hb); have n1_ := Aside0.mk (Kd.N_below (tN HO112.out) hb); have n2_ := Aside0.mk (below_step tB hb); clear HO107; clear HO112; clear HB; have HO107 := n0_; have HO112 := n1_; have HB := n2_; clear n0_ n1_ n2_; (try clear hb); (try clear hb2); (try clear hk); (try clear hi)))
     (try simp only [Act.put, List.setIfInBounds_toArray, List.set_cons_zero, List.set_cons_succ])
     go_cut [90] (fun v90 wc => ∃ (kq : Nat) (x90_17 : Bool), v90 = .bool x90_17 ∧ Aside0 (earshotlaw03_FeatureImproves.j1 kq l0 l1 a2 t108 t109 t110 x90_17 = some r) ∧ Aside0 (kq ≤ kj3) ∧ Aside0 (Kd.N (Kd.slice 3 (Kd.int .i64)) 22 wc w.heap.size (fun _ => True) v111 t108) ∧ Aside0 (Below w.heap.size w wc))
     case first =>
      as_aux_lemma =>
      have H := HC18.out
      clear HC18
      by_cases c22 : t105 = 0
      ·rw [if_pos c22] at H
       have c22b0 : (t105 == 0) = true := beq_iff_eq.mpr c22
       have c22b1 : (t105 != 0) = false := bne_eq_false_iff_eq.mpr c22
       clear c22
       (first | rw [c22b0] | (simp only [i64_w, i32_w]; rw [c22b0]) | skip)
       replace H := Option.bind_eq_some_iff.mp H
       obtain ⟨t115, A230, H⟩ := H
       try dsimp only at H
       have A23 := Aside0.mk A230
       clear A230
       replace H := Option.bind_eq_some_iff.mp H
       obtain ⟨t118, A240, H⟩ := H
       try dsimp only at H
       have A24 := Aside0.mk A240
       clear A240
       have H' := Aside0.mk H
       clear H
       go_wp2_with (first | (go_at_call 77; (with_reducible refine (earshotref03_Improve.calls kj3 (fun k_ => k_ < w.heap.size) _ _ l0 _ _ l1 t115 _ ?side1 ?side2 ?side3 A23.out).mono ?_); (case side1 => exact Kd.V_mk HC0.out (Kd.F_below (Kd.C_F (Kd.heap_slice 3 (Kd.heap_int .i64)) HR0.out) tB)); (case side2 => exact tC (Kd.C_below HR1.out HB.out)); (case side3 => exact HC1.out); rintro e w25 ⟨v116, rfl, ho0, hb⟩; have n0_ := Aside0.mk (Kd.N_elder' (tN HO107.out) (Kd.N_base ho0) hb); have n1_ := Aside0.mk (Kd.N_elder' (tN HO112.out) (Kd.N_base ho0) hb); have n2_ := Aside0.mk (Kd.N_lower (Kd.N_mono (ok' := fun k_ => some k_ ≠ (v106 : Value).ownBlock ∧ some k_ ≠ (v111 : Value).ownBlock) ho0 (fun k_ hk_ => ⟨Or.elim hk_ (fun hs_ => fun e_ => Nat.not_le.2 hs_ (Kd.N_base HO107.out k_ e_.symm)) (fun hn_ => (Kd.fresh' (Kd.N_lt (tN HO107.out)) k_ hn_)), Or.elim hk_ (fun hs_ => fun e_ => Nat.not_le.2 hs_ (Kd.N_base HO112.out k_ e_.symm)) (fun hn_ => (Kd.fresh' (Kd.N_lt (tN HO112.out)) k_ hn_))⟩)) (below_size tB)); have n3_ := Aside0.mk (below_step tB hb); clear HO107; clear HO112; clear HB; have HO107 := n0_; have HO112 := n1_; have HO117 := n2_; have HB := n3_; clear n0_ n1_ n2_ n3_; (try clear hb); (try clear hb2); (try clear hk); (try clear hi); (try clear ho0); obtain ⟨Ao26, co26, eo26⟩ := Kd.N_slice HO107.out; subst eo26; obtain ⟨Ao27, co27, eo27⟩ := Kd.N_slice HO117.out; subst eo27) | (go_at_call 46; (with_reducible refine (earshotref02_SameLists.calls kj3 _ _ t104 _ _ t115 t118 _ ?side1 ?side2 ?side3 ?side4 A24.out).mono ?_); (case side1 => exact tC (Kd.N_reads' HO107.out).2.2); (case side2 => exact (Kd.N_reads' HO107.out).2.1); (case side3 => exact tC (Kd.N_reads' HO117.out).2.2); (case side4 => exact (Kd.N_reads' HO117.out).2.1); rintro e w' ⟨rfl, ⟨nd, rfl⟩⟩))
       go_meet
       case rel => exact ⟨_, (!t118), (by first | rfl | (simp; done) | (simp only [i64_w]; done) | (simp [*]; done)), H', ⟨by have := HJ3.out; first | omega | exact Nat.le_refl _⟩, ⟨by (with_reducible repeat (first | apply Kd.N_alloc | apply Kd.N_drewN | apply Kd.N_drew)); exact Kd.N_mono HO112.out (fun _ hk => trivial)⟩, ⟨tB⟩⟩
      ·rw [if_neg c22] at H
       have c22b0 : (t105 == 0) = false := beq_eq_false_iff_ne.mpr c22
       have c22b1 : (t105 != 0) = true := bne_iff_ne.mpr c22
       (first | rw [c22b0] | (simp only [i64_w, i32_w]; rw [c22b0]) | skip)
       have H' := Aside0.mk H
       clear H
       go_wp2
       go_meet
       case rel => exact ⟨_, (true), (by first | rfl | (simp; done) | (simp only [i64_w]; done) | (simp [*]; done)), H', ⟨by have := HJ3.out; first | omega | exact Nat.le_refl _⟩, ⟨by (with_reducible repeat (first | apply Kd.N_alloc | apply Kd.N_drewN | apply Kd.N_drew)); exact Kd.N_mono HO112.out (fun _ hk => trivial)⟩, ⟨tB⟩⟩
     case rest =>
      as_aux_lemma =>
      clear HC18
      try clear c1
      try clear c2
      try clear p2
      try clear c5
      try clear c6
      try clear c7
      try clear c8
      try clear c9
      try clear c9b0
      try clear c9b1
      try clear c10
      try clear c10b0
      try clear c11
      try clear c17
      try clear c17b0
      try clear c17b1
      try clear c19
      try clear c22
      try clear c22b0
      try clear c22b1
      try clear p2
      obtain ⟨kq, x90_17, rfl, HA, HJ17, HO_9, HB⟩ := hcut
      cases kq with
      | zero => exact absurd HA.out (by simp [earshotlaw03_FeatureImproves.j1])
      | succ kj17 =>
       have H := HA.out
       clear HA
       simp only [earshotlaw03_FeatureImproves.j1] at H
       by_cases c28 : x90_17 = true
       ·subst c28
        have H1 : (some false) = some r := by rw [if_pos rfl] at H; exact H
        clear H
        have H := H1
        clear H1
        obtain rfl := Option.some.inj H
        go_wp2
        go_ret
        exact ⟨by first | rfl | (simp [errW_none, errW_some] <;> rfl) | (simp [*, errW_none, errW_some] <;> rfl), tB⟩
       ·replace c28 := Bool.eq_false_iff.mpr c28
        subst c28
        have H1 : (if a2 < 0 then (earshotlaw03_FeatureImproves.j2 kj17 l0 l1 a2 t108 t109 t110 true) else (earshotlaw03_FeatureImproves.j2 kj17 l0 l1 a2 t108 t109 t110 (decide (a2 > 1000)))) = some r := by rw [if_neg (show ¬ (false = true) by decide)] at H; exact H
        clear H
        have H := H1
        clear H1
        have HC29 := Aside0.mk H
        clear H
        go_upto_region 10 with (fail)
        go_cut [96] (fun v96 wc => ∃ (kq : Nat) (x96_28 : Bool), v96 = .bool x96_28 ∧ Aside0 (earshotlaw03_FeatureImproves.j2 kq l0 l1 a2 t108 t109 t110 x96_28 = some r) ∧ Aside0 (kq ≤ kj17) ∧ Aside0 (Kd.N (Kd.slice 3 (Kd.int .i64)) 22 wc w.heap.size (fun _ => True) v111 t108) ∧ Aside0 (Below w.heap.size w wc))
        case first =>
         as_aux_lemma =>
         have H := HC29.out
         clear HC29
         by_cases c30 : a2 < 0
         ·rw [if_pos c30] at H
          have c30b0 := decide_eq_true c30
          clear c30
          (first | rw [c30b0] | (simp only [i64_w, i32_w]; rw [c30b0]) | skip)
          have H' := Aside0.mk H
          clear H
          go_wp2
          go_meet
          case rel => exact ⟨_, (true), (by first | rfl | (simp; done) | (simp only [i64_w]; done) | (simp [*]; done)), H', ⟨by have := HJ3.out; have := HJ17.out; first | omega | exact Nat.le_refl _⟩, ⟨tN HO_9.out⟩, ⟨tB⟩⟩
         ·rw [if_neg c30] at H
          have c30b0 := decide_eq_false c30
          clear c30
          (first | rw [c30b0] | (simp only [i64_w, i32_w]; rw [c30b0]) | skip)
          have H' := Aside0.mk H
          clear H
          go_wp2
          go_meet
          case rel => exact ⟨_, (decide (a2 > 1000)), (by first | rfl | (simp; done) | (simp only [i64_w]; done) | (simp [*]; done)), H', ⟨by have := HJ3.out; have := HJ17.out; first | omega | exact Nat.le_refl _⟩, ⟨tN HO_9.out⟩, ⟨tB⟩⟩
        case rest =>
         as_aux_lemma =>
         clear HC29
         try clear c1
         try clear c2
         try clear p2
         try clear c3
         try clear c5
         try clear c6
         try clear c7
         try clear c8
         try clear c9
         try clear c9b0
         try clear c9b1
         try clear c10
         try clear c10b0
         try clear c11
         try clear c17
         try clear c17b0
         try clear c17b1
         try clear c19
         try clear c22
         try clear c22b0
         try clear c22b1
         try clear c28
         try clear c30
         try clear c30b0
         try clear p2
         obtain ⟨kq, x96_28, rfl, HA, HJ28, HO_9, HB⟩ := hcut
         cases kq with
         | zero => exact absurd HA.out (by simp [earshotlaw03_FeatureImproves.j2])
         | succ kj28 =>
          have H := HA.out
          clear HA
          simp only [earshotlaw03_FeatureImproves.j2] at H
          by_cases c31 : x96_28 = true
          ·subst c31
           have H1 : (if t110 = 2 then (if (t108.length : Int) = 0 then (if t109 = 0 then ((earshotlaw03_known.f kj28).bind fun t119 => (some t119)) else (some false)) else (some false)) else (some false)) = some r := by rw [if_pos rfl] at H; exact H
           clear H
           have H := H1
           clear H1
           by_cases c32 : t110 = 2
           ·rw [if_pos c32] at H
            have c32b0 : (t110 == 2) = true := beq_iff_eq.mpr c32
            have c32b1 : (t110 != 2) = false := bne_eq_false_iff_eq.mpr c32
            clear c32
            by_cases c33 : (t108.length : Int) = 0
            ·rw [if_pos c33] at H
             have c33b0 : ((t108.length : Int) == 0) = true := beq_iff_eq.mpr c33
             have c33b1 : ((t108.length : Int) != 0) = false := bne_eq_false_iff_eq.mpr c33
             clear c33
             by_cases c34 : t109 = 0
             ·rw [if_pos c34] at H
              have c34b0 : (t109 == 0) = true := beq_iff_eq.mpr c34
              have c34b1 : (t109 != 0) = false := bne_eq_false_iff_eq.mpr c34
              clear c34
              replace H := Option.bind_eq_some_iff.mp H
              obtain ⟨t119, A350, H⟩ := H
              try dsimp only at H
              have A35 := Aside0.mk A350
              clear A350
              obtain rfl := Option.some.inj H
              obtain ⟨Ao36, co36, eo36⟩ := Kd.N_slice HO_9.out
              subst eo36
              go_wp2_with (first | (go_at_call 22; (with_reducible refine (earshotlaw03_known.calls kj28  t119 _ ?side1 A35.out).mono ?_); (case side1 => exact tC (Kd.C_below HRT.out HB.out)); rintro e w37 ⟨rfl, hb⟩; have n0_ := Aside0.mk (Kd.N_below (tN HO_9.out) hb); have n1_ := Aside0.mk (below_step tB hb); clear HO_9; clear HB; have HO_9 := n0_; have HB := n1_; clear n0_ n1_; (try clear hb); (try clear hb2); (try clear hk); (try clear hi)))
              go_ret
              exact ⟨by first | rfl | (simp [errW_none, errW_some] <;> rfl) | (simp [*, errW_none, errW_some] <;> rfl), tB⟩
             ·rw [if_neg c34] at H
              have c34b0 : (t109 == 0) = false := beq_eq_false_iff_ne.mpr c34
              have c34b1 : (t109 != 0) = true := bne_iff_ne.mpr c34
              obtain rfl := Option.some.inj H
              obtain ⟨Ao38, co38, eo38⟩ := Kd.N_slice HO_9.out
              subst eo38
              go_wp2
              go_ret
              exact ⟨by first | rfl | (simp [errW_none, errW_some] <;> rfl) | (simp [*, errW_none, errW_some] <;> rfl), tB⟩
            ·rw [if_neg c33] at H
             have c33b0 : ((t108.length : Int) == 0) = false := beq_eq_false_iff_ne.mpr c33
             have c33b1 : ((t108.length : Int) != 0) = true := bne_iff_ne.mpr c33
             have c33b2 : ¬ (t108 = []) := fun h_ => c33 (by rw [h_]; rfl)
             obtain rfl := Option.some.inj H
             obtain ⟨Ao39, co39, eo39⟩ := Kd.N_slice HO_9.out
             subst eo39
             go_wp2
             go_ret
             exact ⟨by first | rfl | (simp [errW_none, errW_some] <;> rfl) | (simp [*, errW_none, errW_some] <;> rfl), tB⟩
           ·rw [if_neg c32] at H
            have c32b0 : (t110 == 2) = false := beq_eq_false_iff_ne.mpr c32
            have c32b1 : (t110 != 2) = true := bne_iff_ne.mpr c32
            obtain rfl := Option.some.inj H
            go_wp2
            go_ret
            exact ⟨by first | rfl | (simp [errW_none, errW_some] <;> rfl) | (simp [*, errW_none, errW_some] <;> rfl), tB⟩
          ·replace c31 := Bool.eq_false_iff.mpr c31
           subst c31
           have H1 : ((earshotref03_Train.f kj28 l0 l1 a2).bind fun bt120 => (if t110 = 0 then (if t109 = bt120.2 then ((earshotref02_SameLists.f kj28 t108 bt120.1).bind fun t124 => (if t124 = true then ((earshotlaw03_known.f kj28).bind fun t125 => (some t125)) else (some false))) else (some false)) else (some false))) = some r := by rw [if_neg (show ¬ (false = true) by decide)] at H; exact H
           clear H
           have H := H1
           clear H1
           replace H := Option.bind_eq_some_iff.mp H
           obtain ⟨⟨t120, t123⟩, A400, H⟩ := H
           try dsimp only at H
           have A40 := Aside0.mk A400
           clear A400
           by_cases c41 : t110 = 0
           ·rw [if_pos c41] at H
            have c41b0 : (t110 == 0) = true := beq_iff_eq.mpr c41
            have c41b1 : (t110 != 0) = false := bne_eq_false_iff_eq.mpr c41
            clear c41
            by_cases c42 : t109 = t123
            ·rw [if_pos c42] at H
             have c42b0 : (t109 == t123) = true := beq_iff_eq.mpr c42
             have c42b1 : (t109 != t123) = false := bne_eq_false_iff_eq.mpr c42
             clear c42
             replace H := Option.bind_eq_some_iff.mp H
             obtain ⟨t124, A430, H⟩ := H
             try dsimp only at H
             have A43 := Aside0.mk A430
             clear A430
             by_cases c44 : t124 = true
             ·subst c44
              have H1 : ((earshotlaw03_known.f kj28).bind fun t125 => (some t125)) = some r := by rw [if_pos rfl] at H; exact H
              clear H
              have H := H1
              clear H1
              replace H := Option.bind_eq_some_iff.mp H
              obtain ⟨t125, A450, H⟩ := H
              try dsimp only at H
              have A45 := Aside0.mk A450
              clear A450
              obtain rfl := Option.some.inj H
              go_wp2_with (first | ((with_reducible refine gate_callee (f := 78) rfl ?_); refine goesL_ (some 115) rfl rfl Tryd.func78 (by kernel_rfl) rfl #[.slice A0 l0.length c0, .slice A1 l1.length c1, .int .i64 a2] rfl tL ?_; (with_reducible refine (earshotref03_Train.calls kj28 (fun k_ => k_ < w.heap.size) _ _ l0 (fun k_ => k_ < w.heap.size) _ _ l1 a2 t120 t123 _ ?side1 ?side2 A40.out).mono ?_); (case side1 => exact Kd.V_mk HC0.out (Kd.F_below (Kd.C_F (Kd.heap_slice 3 (Kd.heap_int .i64)) HR0.out) tB)); (case side2 => exact Kd.V_mk HC1.out (Kd.F_below (Kd.C_F (Kd.heap_slice 3 (Kd.heap_int .i64)) HR1.out) tB)); rintro e w46 ⟨v121, rfl, ho0, hb⟩; refine ⟨_, rfl, ?_⟩; have n0_ := Aside0.mk (Kd.N_elder' (tN HO_9.out) (Kd.N_base ho0) hb); have n1_ := Aside0.mk (Kd.N_lower (Kd.N_mono (ok' := fun k_ => some k_ ≠ (v111 : Value).ownBlock) ho0 (fun k_ hk_ => Or.elim hk_ (fun hs_ => Or.elim hs_ (fun hs_ => fun e_ => Nat.not_le.2 hs_ (Kd.N_base HO_9.out k_ e_.symm)) (fun hs_ => fun e_ => Nat.not_le.2 hs_ (Kd.N_base HO_9.out k_ e_.symm))) (fun hn_ => (Kd.fresh' (Kd.N_lt (tN HO_9.out)) k_ hn_)))) (below_size tB)); have n2_ := Aside0.mk (below_step tB hb); clear HO_9; clear HB; have HO_9 := n0_; have HO122 := n1_; have HB := n2_; clear n0_ n1_ n2_; (try clear hb); (try clear hb2); (try clear hk); (try clear hi); (try clear ho0); obtain ⟨Ao47, co47, eo47⟩ := Kd.N_slice HO_9.out; subst eo47; obtain ⟨Ao48, co48, eo48⟩ := Kd.N_slice HO122.out; subst eo48) | (go_at_call 46; (with_reducible refine (earshotref02_SameLists.calls kj28 _ _ t108 _ _ t120 true _ ?side1 ?side2 ?side3 ?side4 A43.out).mono ?_); (case side1 => exact tC (Kd.N_reads' HO_9.out).2.2); (case side2 => exact (Kd.N_reads' HO_9.out).2.1); (case side3 => exact tC (Kd.N_reads' HO122.out).2.2); (case side4 => exact (Kd.N_reads' HO122.out).2.1); rintro e w' ⟨rfl, ⟨nd, rfl⟩⟩) | (go_at_call 22; (with_reducible refine (earshotlaw03_known.calls kj28  t125 _ ?side1 A45.out).mono ?_); (case side1 => exact tC (Kd.C_below HRT.out tB)); rintro e w49 ⟨rfl, hb⟩; have n0_ := Aside0.mk (Kd.N_below (tN HO_9.out) hb); have n1_ := Aside0.mk (Kd.N_below (tN HO122.out) hb); have n2_ := Aside0.mk (below_step tB hb); clear HO_9; clear HO122; clear HB; have HO_9 := n0_; have HO122 := n1_; have HB := n2_; clear n0_ n1_ n2_; (try clear hb); (try clear hb2); (try clear hk); (try clear hi)))
              go_ret
              exact ⟨by first | rfl | (simp [errW_none, errW_some] <;> rfl) | (simp [*, errW_none, errW_some] <;> rfl), tB⟩
             ·replace c44 := Bool.eq_false_iff.mpr c44
              subst c44
              have H1 : (some false) = some r := by rw [if_neg (show ¬ (false = true) by decide)] at H; exact H
              clear H
              have H := H1
              clear H1
              obtain rfl := Option.some.inj H
              go_wp2_with (first | ((with_reducible refine gate_callee (f := 78) rfl ?_); refine goesL_ (some 115) rfl rfl Tryd.func78 (by kernel_rfl) rfl #[.slice A0 l0.length c0, .slice A1 l1.length c1, .int .i64 a2] rfl tL ?_; (with_reducible refine (earshotref03_Train.calls kj28 (fun k_ => k_ < w.heap.size) _ _ l0 (fun k_ => k_ < w.heap.size) _ _ l1 a2 t120 t123 _ ?side1 ?side2 A40.out).mono ?_); (case side1 => exact Kd.V_mk HC0.out (Kd.F_below (Kd.C_F (Kd.heap_slice 3 (Kd.heap_int .i64)) HR0.out) tB)); (case side2 => exact Kd.V_mk HC1.out (Kd.F_below (Kd.C_F (Kd.heap_slice 3 (Kd.heap_int .i64)) HR1.out) tB)); rintro e w50 ⟨v121, rfl, ho0, hb⟩; refine ⟨_, rfl, ?_⟩; have n0_ := Aside0.mk (Kd.N_elder' (tN HO_9.out) (Kd.N_base ho0) hb); have n1_ := Aside0.mk (Kd.N_lower (Kd.N_mono (ok' := fun k_ => some k_ ≠ (v111 : Value).ownBlock) ho0 (fun k_ hk_ => Or.elim hk_ (fun hs_ => Or.elim hs_ (fun hs_ => fun e_ => Nat.not_le.2 hs_ (Kd.N_base HO_9.out k_ e_.symm)) (fun hs_ => fun e_ => Nat.not_le.2 hs_ (Kd.N_base HO_9.out k_ e_.symm))) (fun hn_ => (Kd.fresh' (Kd.N_lt (tN HO_9.out)) k_ hn_)))) (below_size tB)); have n2_ := Aside0.mk (below_step tB hb); clear HO_9; clear HB; have HO_9 := n0_; have HO122 := n1_; have HB := n2_; clear n0_ n1_ n2_; (try clear hb); (try clear hb2); (try clear hk); (try clear hi); (try clear ho0); obtain ⟨Ao51, co51, eo51⟩ := Kd.N_slice HO_9.out; subst eo51; obtain ⟨Ao52, co52, eo52⟩ := Kd.N_slice HO122.out; subst eo52) | (go_at_call 46; (with_reducible refine (earshotref02_SameLists.calls kj28 _ _ t108 _ _ t120 false _ ?side1 ?side2 ?side3 ?side4 A43.out).mono ?_); (case side1 => exact tC (Kd.N_reads' HO_9.out).2.2); (case side2 => exact (Kd.N_reads' HO_9.out).2.1); (case side3 => exact tC (Kd.N_reads' HO122.out).2.2); (case side4 => exact (Kd.N_reads' HO122.out).2.1); rintro e w' ⟨rfl, ⟨nd, rfl⟩⟩))
              go_ret
              exact ⟨by first | rfl | (simp [errW_none, errW_some] <;> rfl) | (simp [*, errW_none, errW_some] <;> rfl), tB⟩
            ·rw [if_neg c42] at H
             have c42b0 : (t109 == t123) = false := beq_eq_false_iff_ne.mpr c42
             have c42b1 : (t109 != t123) = true := bne_iff_ne.mpr c42
             obtain rfl := Option.some.inj H
             go_wp2_with (first | ((with_reducible refine gate_callee (f := 78) rfl ?_); refine goesL_ (some 115) rfl rfl Tryd.func78 (by kernel_rfl) rfl #[.slice A0 l0.length c0, .slice A1 l1.length c1, .int .i64 a2] rfl tL ?_; (with_reducible refine (earshotref03_Train.calls kj28 (fun k_ => k_ < w.heap.size) _ _ l0 (fun k_ => k_ < w.heap.size) _ _ l1 a2 t120 t123 _ ?side1 ?side2 A40.out).mono ?_); (case side1 => exact Kd.V_mk HC0.out (Kd.F_below (Kd.C_F (Kd.heap_slice 3 (Kd.heap_int .i64)) HR0.out) tB)); (case side2 => exact Kd.V_mk HC1.out (Kd.F_below (Kd.C_F (Kd.heap_slice 3 (Kd.heap_int .i64)) HR1.out) tB)); rintro e w53 ⟨v121, rfl, ho0, hb⟩; refine ⟨_, rfl, ?_⟩; have n0_ := Aside0.mk (Kd.N_elder' (tN HO_9.out) (Kd.N_base ho0) hb); have n1_ := Aside0.mk (Kd.N_lower (Kd.N_mono (ok' := fun k_ => some k_ ≠ (v111 : Value).ownBlock) ho0 (fun k_ hk_ => Or.elim hk_ (fun hs_ => Or.elim hs_ (fun hs_ => fun e_ => Nat.not_le.2 hs_ (Kd.N_base HO_9.out k_ e_.symm)) (fun hs_ => fun e_ => Nat.not_le.2 hs_ (Kd.N_base HO_9.out k_ e_.symm))) (fun hn_ => (Kd.fresh' (Kd.N_lt (tN HO_9.out)) k_ hn_)))) (below_size tB)); have n2_ := Aside0.mk (below_step tB hb); clear HO_9; clear HB; have HO_9 := n0_; have HO122 := n1_; have HB := n2_; clear n0_ n1_ n2_; (try clear hb); (try clear hb2); (try clear hk); (try clear hi); (try clear ho0)))
             go_ret
             exact ⟨by first | rfl | (simp [errW_none, errW_some] <;> rfl) | (simp [*, errW_none, errW_some] <;> rfl), tB⟩
           ·rw [if_neg c41] at H
            have c41b0 : (t110 == 0) = false := beq_eq_false_iff_ne.mpr c41
            have c41b1 : (t110 != 0) = true := bne_iff_ne.mpr c41
            obtain rfl := Option.some.inj H
            go_wp2_with (first | ((with_reducible refine gate_callee (f := 78) rfl ?_); refine goesL_ (some 115) rfl rfl Tryd.func78 (by kernel_rfl) rfl #[.slice A0 l0.length c0, .slice A1 l1.length c1, .int .i64 a2] rfl tL ?_; (with_reducible refine (earshotref03_Train.calls kj28 (fun k_ => k_ < w.heap.size) _ _ l0 (fun k_ => k_ < w.heap.size) _ _ l1 a2 t120 t123 _ ?side1 ?side2 A40.out).mono ?_); (case side1 => exact Kd.V_mk HC0.out (Kd.F_below (Kd.C_F (Kd.heap_slice 3 (Kd.heap_int .i64)) HR0.out) tB)); (case side2 => exact Kd.V_mk HC1.out (Kd.F_below (Kd.C_F (Kd.heap_slice 3 (Kd.heap_int .i64)) HR1.out) tB)); rintro e w54 ⟨v121, rfl, ho0, hb⟩; refine ⟨_, rfl, ?_⟩; have n0_ := Aside0.mk (Kd.N_elder' (tN HO_9.out) (Kd.N_base ho0) hb); have n1_ := Aside0.mk (Kd.N_lower (Kd.N_mono (ok' := fun k_ => some k_ ≠ (v111 : Value).ownBlock) ho0 (fun k_ hk_ => Or.elim hk_ (fun hs_ => Or.elim hs_ (fun hs_ => fun e_ => Nat.not_le.2 hs_ (Kd.N_base HO_9.out k_ e_.symm)) (fun hs_ => fun e_ => Nat.not_le.2 hs_ (Kd.N_base HO_9.out k_ e_.symm))) (fun hn_ => (Kd.fresh' (Kd.N_lt (tN HO_9.out)) k_ hn_)))) (below_size tB)); have n2_ := Aside0.mk (below_step tB hb); clear HO_9; clear HB; have HO_9 := n0_; have HO122 := n1_; have HB := n2_; clear n0_ n1_ n2_; (try clear hb); (try clear hb2); (try clear hk); (try clear hi); (try clear ho0)))
            go_ret
            exact ⟨by first | rfl | (simp [errW_none, errW_some] <;> rfl) | (simp [*, errW_none, errW_some] <;> rfl), tB⟩
    ·rw [if_neg c17] at H
     have c17b0 : (t113 == 0) = false := beq_eq_false_iff_ne.mpr c17
     have c17b1 : (t113 != 0) = true := bne_iff_ne.mpr c17
     by_cases c55 : t105 = t113
     ·rw [if_pos c55] at H
      have c55b0 : (t105 == t113) = true := beq_iff_eq.mpr c55
      have c55b1 : (t105 != t113) = false := bne_eq_false_iff_eq.mpr c55
      clear c55
      by_cases c56 : t110 = t113
      ·rw [if_pos c56] at H
       have c56b0 : (t110 == t113) = true := beq_iff_eq.mpr c56
       have c56b1 : (t110 != t113) = false := bne_eq_false_iff_eq.mpr c56
       clear c56
       by_cases c57 : (t104.length : Int) = 0
       ·rw [if_pos c57] at H
        have c57b0 : ((t104.length : Int) == 0) = true := beq_iff_eq.mpr c57
        have c57b1 : ((t104.length : Int) != 0) = false := bne_eq_false_iff_eq.mpr c57
        clear c57
        by_cases c58 : (t108.length : Int) = 0
        ·rw [if_pos c58] at H
         have c58b0 : ((t108.length : Int) == 0) = true := beq_iff_eq.mpr c58
         have c58b1 : ((t108.length : Int) != 0) = false := bne_eq_false_iff_eq.mpr c58
         clear c58
         by_cases c59 : t109 = 0
         ·rw [if_pos c59] at H
          have c59b0 : (t109 == 0) = true := beq_iff_eq.mpr c59
          have c59b1 : (t109 != 0) = false := bne_eq_false_iff_eq.mpr c59
          clear c59
          replace H := Option.bind_eq_some_iff.mp H
          obtain ⟨t114, A600, H⟩ := H
          try dsimp only at H
          have A60 := Aside0.mk A600
          clear A600
          obtain rfl := Option.some.inj H
          go_wp2_with (first | ((with_reducible refine gate_callee (f := 75) rfl ?_); refine goesL_ (some 40) rfl rfl Tryd.func75 (by kernel_rfl) rfl #[.slice A0 l0.length c0, .slice A1 l1.length c1] rfl tL ?_; (with_reducible refine (feature_Improve.calls kj3 _ _ l0 _ _ l1 t104 t105 _ ?side1 ?side2 ?side3 ?side4 A14.out).mono ?_); (case side1 => exact tC (Kd.C_below HR0.out HB.out)); (case side2 => exact HC0.out); (case side3 => exact tC (Kd.C_below HR1.out HB.out)); (case side4 => exact HC1.out); rintro e w61 ⟨v106, rfl, ho0, hb⟩; refine ⟨_, rfl, ?_⟩; have n0_ := Aside0.mk (Kd.N_lower (Kd.N_mono (ok' := fun k_ => True) (Kd.S_N (Kd.S_bound ho0)) (fun k_ hk_ => trivial)) (below_size tB)); have n1_ := Aside0.mk (below_step tB hb); clear HB; have HO107 := n0_; have HB := n1_; clear n0_ n1_; (try clear hb); (try clear hb2); (try clear hk); (try clear hi); (try clear ho0)) | ((with_reducible refine gate_callee (f := 76) rfl ?_); refine goesL_ (some 47) rfl rfl Tryd.func76 (by kernel_rfl) rfl #[.slice A0 l0.length c0, .slice A1 l1.length c1, .int .i64 a2] rfl tL ?_; (with_reducible refine (feature_Train.calls kj3 _ _ l0 _ _ l1 a2 t108 t109 t110 _ ?side1 ?side2 ?side3 ?side4 A15.out).mono ?_); (case side1 => exact tC (Kd.C_below HR0.out HB.out)); (case side2 => exact HC0.out); (case side3 => exact tC (Kd.C_below HR1.out HB.out)); (case side4 => exact HC1.out); rintro e w62 ⟨v111, rfl, ho0, hb⟩; refine ⟨_, rfl, ?_⟩; have n0_ := Aside0.mk (Kd.N_elder' (tN HO107.out) (Kd.N_base (Kd.S_N ho0)) hb); have n1_ := Aside0.mk (Kd.N_lower (Kd.N_mono (ok' := fun k_ => some k_ ≠ (v106 : Value).ownBlock) (Kd.S_N (Kd.S_bound ho0)) (fun k_ hk_ => (Kd.fresh' (Kd.N_lt (tN HO107.out)) k_ hk_.2.1))) (below_size tB)); have n2_ := Aside0.mk (below_step tB hb); clear HO107; clear HB; have HO107 := n0_; have HO112 := n1_; have HB := n2_; clear n0_ n1_ n2_; (try clear hb); (try clear hb2); (try clear hk); (try clear hi); (try clear ho0)) | ((with_reducible refine gate_callee (f := 63) rfl ?_); refine goesL_ (some 53) rfl rfl Tryd.func63 (by kernel_rfl) rfl #[.slice A0 l0.length c0, .slice A1 l1.length c1] rfl tL ?_; (with_reducible refine (earshotref03_Fits.calls kj3 _ _ l0 _ _ l1 t113 _ ?side1 ?side2 ?side3 ?side4 A16.out).mono ?_); (case side1 => exact tC (Kd.C_below HR0.out HB.out)); (case side2 => exact HC0.out); (case side3 => exact tC (Kd.C_below HR1.out HB.out)); (case side4 => exact HC1.out); rintro e w63 ⟨rfl, hb⟩; refine ⟨_, rfl, ?_⟩; have n0_ := Aside0.mk (Kd.N_below (tN HO107.out) hb); have n1_ := Aside0.mk (Kd.N_below (tN HO112.out) hb); have n2_ := Aside0.mk (below_step tB hb); clear HO107; clear HO112; clear HB; have HO107 := n0_; have HO112 := n1_; have HB := n2_; clear n0_ n1_ n2_; (try clear hb); (try clear hb2); (try clear hk); (try clear hi); obtain ⟨Ao64, co64, eo64⟩ := Kd.N_slice HO107.out; subst eo64; obtain ⟨Ao65, co65, eo65⟩ := Kd.N_slice HO112.out; subst eo65) | (go_at_call 22; (with_reducible refine (earshotlaw03_known.calls kj3  t114 _ ?side1 A60.out).mono ?_); (case side1 => exact tC (Kd.C_below HRT.out HB.out)); rintro e w66 ⟨rfl, hb⟩; have n0_ := Aside0.mk (Kd.N_below (tN HO107.out) hb); have n1_ := Aside0.mk (Kd.N_below (tN HO112.out) hb); have n2_ := Aside0.mk (below_step tB hb); clear HO107; clear HO112; clear HB; have HO107 := n0_; have HO112 := n1_; have HB := n2_; clear n0_ n1_ n2_; (try clear hb); (try clear hb2); (try clear hk); (try clear hi)))
          go_ret
          exact ⟨by first | rfl | (simp [errW_none, errW_some] <;> rfl) | (simp [*, errW_none, errW_some] <;> rfl), tB⟩
         ·rw [if_neg c59] at H
          have c59b0 : (t109 == 0) = false := beq_eq_false_iff_ne.mpr c59
          have c59b1 : (t109 != 0) = true := bne_iff_ne.mpr c59
          obtain rfl := Option.some.inj H
          go_wp2_with (first | ((with_reducible refine gate_callee (f := 75) rfl ?_); refine goesL_ (some 40) rfl rfl Tryd.func75 (by kernel_rfl) rfl #[.slice A0 l0.length c0, .slice A1 l1.length c1] rfl tL ?_; (with_reducible refine (feature_Improve.calls kj3 _ _ l0 _ _ l1 t104 t105 _ ?side1 ?side2 ?side3 ?side4 A14.out).mono ?_); (case side1 => exact tC (Kd.C_below HR0.out HB.out)); (case side2 => exact HC0.out); (case side3 => exact tC (Kd.C_below HR1.out HB.out)); (case side4 => exact HC1.out); rintro e w67 ⟨v106, rfl, ho0, hb⟩; refine ⟨_, rfl, ?_⟩; have n0_ := Aside0.mk (Kd.N_lower (Kd.N_mono (ok' := fun k_ => True) (Kd.S_N (Kd.S_bound ho0)) (fun k_ hk_ => trivial)) (below_size tB)); have n1_ := Aside0.mk (below_step tB hb); clear HB; have HO107 := n0_; have HB := n1_; clear n0_ n1_; (try clear hb); (try clear hb2); (try clear hk); (try clear hi); (try clear ho0)) | ((with_reducible refine gate_callee (f := 76) rfl ?_); refine goesL_ (some 47) rfl rfl Tryd.func76 (by kernel_rfl) rfl #[.slice A0 l0.length c0, .slice A1 l1.length c1, .int .i64 a2] rfl tL ?_; (with_reducible refine (feature_Train.calls kj3 _ _ l0 _ _ l1 a2 t108 t109 t110 _ ?side1 ?side2 ?side3 ?side4 A15.out).mono ?_); (case side1 => exact tC (Kd.C_below HR0.out HB.out)); (case side2 => exact HC0.out); (case side3 => exact tC (Kd.C_below HR1.out HB.out)); (case side4 => exact HC1.out); rintro e w68 ⟨v111, rfl, ho0, hb⟩; refine ⟨_, rfl, ?_⟩; have n0_ := Aside0.mk (Kd.N_elder' (tN HO107.out) (Kd.N_base (Kd.S_N ho0)) hb); have n1_ := Aside0.mk (Kd.N_lower (Kd.N_mono (ok' := fun k_ => some k_ ≠ (v106 : Value).ownBlock) (Kd.S_N (Kd.S_bound ho0)) (fun k_ hk_ => (Kd.fresh' (Kd.N_lt (tN HO107.out)) k_ hk_.2.1))) (below_size tB)); have n2_ := Aside0.mk (below_step tB hb); clear HO107; clear HB; have HO107 := n0_; have HO112 := n1_; have HB := n2_; clear n0_ n1_ n2_; (try clear hb); (try clear hb2); (try clear hk); (try clear hi); (try clear ho0)) | ((with_reducible refine gate_callee (f := 63) rfl ?_); refine goesL_ (some 53) rfl rfl Tryd.func63 (by kernel_rfl) rfl #[.slice A0 l0.length c0, .slice A1 l1.length c1] rfl tL ?_; (with_reducible refine (earshotref03_Fits.calls kj3 _ _ l0 _ _ l1 t113 _ ?side1 ?side2 ?side3 ?side4 A16.out).mono ?_); (case side1 => exact tC (Kd.C_below HR0.out HB.out)); (case side2 => exact HC0.out); (case side3 => exact tC (Kd.C_below HR1.out HB.out)); (case side4 => exact HC1.out); rintro e w69 ⟨rfl, hb⟩; refine ⟨_, rfl, ?_⟩; have n0_ := Aside0.mk (Kd.N_below (tN HO107.out) hb); have n1_ := Aside0.mk (Kd.N_below (tN HO112.out) hb); have n2_ := Aside0.mk (below_step tB hb); clear HO107; clear HO112; clear HB; have HO107 := n0_; have HO112 := n1_; have HB := n2_; clear n0_ n1_ n2_; (try clear hb); (try clear hb2); (try clear hk); (try clear hi); obtain ⟨Ao70, co70, eo70⟩ := Kd.N_slice HO107.out; subst eo70; obtain ⟨Ao71, co71, eo71⟩ := Kd.N_slice HO112.out; subst eo71))
          go_ret
          exact ⟨by first | rfl | (simp [errW_none, errW_some] <;> rfl) | (simp [*, errW_none, errW_some] <;> rfl), tB⟩
        ·rw [if_neg c58] at H
         have c58b0 : ((t108.length : Int) == 0) = false := beq_eq_false_iff_ne.mpr c58
         have c58b1 : ((t108.length : Int) != 0) = true := bne_iff_ne.mpr c58
         have c58b2 : ¬ (t108 = []) := fun h_ => c58 (by rw [h_]; rfl)
         obtain rfl := Option.some.inj H
         go_wp2_with (first | ((with_reducible refine gate_callee (f := 75) rfl ?_); refine goesL_ (some 40) rfl rfl Tryd.func75 (by kernel_rfl) rfl #[.slice A0 l0.length c0, .slice A1 l1.length c1] rfl tL ?_; (with_reducible refine (feature_Improve.calls kj3 _ _ l0 _ _ l1 t104 t105 _ ?side1 ?side2 ?side3 ?side4 A14.out).mono ?_); (case side1 => exact tC (Kd.C_below HR0.out HB.out)); (case side2 => exact HC0.out); (case side3 => exact tC (Kd.C_below HR1.out HB.out)); (case side4 => exact HC1.out); rintro e w72 ⟨v106, rfl, ho0, hb⟩; refine ⟨_, rfl, ?_⟩; have n0_ := Aside0.mk (Kd.N_lower (Kd.N_mono (ok' := fun k_ => True) (Kd.S_N (Kd.S_bound ho0)) (fun k_ hk_ => trivial)) (below_size tB)); have n1_ := Aside0.mk (below_step tB hb); clear HB; have HO107 := n0_; have HB := n1_; clear n0_ n1_; (try clear hb); (try clear hb2); (try clear hk); (try clear hi); (try clear ho0)) | ((with_reducible refine gate_callee (f := 76) rfl ?_); refine goesL_ (some 47) rfl rfl Tryd.func76 (by kernel_rfl) rfl #[.slice A0 l0.length c0, .slice A1 l1.length c1, .int .i64 a2] rfl tL ?_; (with_reducible refine (feature_Train.calls kj3 _ _ l0 _ _ l1 a2 t108 t109 t110 _ ?side1 ?side2 ?side3 ?side4 A15.out).mono ?_); (case side1 => exact tC (Kd.C_below HR0.out HB.out)); (case side2 => exact HC0.out); (case side3 => exact tC (Kd.C_below HR1.out HB.out)); (case side4 => exact HC1.out); rintro e w73 ⟨v111, rfl, ho0, hb⟩; refine ⟨_, rfl, ?_⟩; have n0_ := Aside0.mk (Kd.N_elder' (tN HO107.out) (Kd.N_base (Kd.S_N ho0)) hb); have n1_ := Aside0.mk (Kd.N_lower (Kd.N_mono (ok' := fun k_ => some k_ ≠ (v106 : Value).ownBlock) (Kd.S_N (Kd.S_bound ho0)) (fun k_ hk_ => (Kd.fresh' (Kd.N_lt (tN HO107.out)) k_ hk_.2.1))) (below_size tB)); have n2_ := Aside0.mk (below_step tB hb); clear HO107; clear HB; have HO107 := n0_; have HO112 := n1_; have HB := n2_; clear n0_ n1_ n2_; (try clear hb); (try clear hb2); (try clear hk); (try clear hi); (try clear ho0)) | ((with_reducible refine gate_callee (f := 63) rfl ?_); refine goesL_ (some 53) rfl rfl Tryd.func63 (by kernel_rfl) rfl #[.slice A0 l0.length c0, .slice A1 l1.length c1] rfl tL ?_; (with_reducible refine (earshotref03_Fits.calls kj3 _ _ l0 _ _ l1 t113 _ ?side1 ?side2 ?side3 ?side4 A16.out).mono ?_); (case side1 => exact tC (Kd.C_below HR0.out HB.out)); (case side2 => exact HC0.out); (case side3 => exact tC (Kd.C_below HR1.out HB.out)); (case side4 => exact HC1.out); rintro e w74 ⟨rfl, hb⟩; refine ⟨_, rfl, ?_⟩; have n0_ := Aside0.mk (Kd.N_below (tN HO107.out) hb); have n1_ := Aside0.mk (Kd.N_below (tN HO112.out) hb); have n2_ := Aside0.mk (below_step tB hb); clear HO107; clear HO112; clear HB; have HO107 := n0_; have HO112 := n1_; have HB := n2_; clear n0_ n1_ n2_; (try clear hb); (try clear hb2); (try clear hk); (try clear hi); obtain ⟨Ao75, co75, eo75⟩ := Kd.N_slice HO107.out; subst eo75; obtain ⟨Ao76, co76, eo76⟩ := Kd.N_slice HO112.out; subst eo76))
         go_ret
         exact ⟨by first | rfl | (simp [errW_none, errW_some] <;> rfl) | (simp [*, errW_none, errW_some] <;> rfl), tB⟩
       ·rw [if_neg c57] at H
        have c57b0 : ((t104.length : Int) == 0) = false := beq_eq_false_iff_ne.mpr c57
        have c57b1 : ((t104.length : Int) != 0) = true := bne_iff_ne.mpr c57
        have c57b2 : ¬ (t104 = []) := fun h_ => c57 (by rw [h_]; rfl)
        obtain rfl := Option.some.inj H
        go_wp2_with (first | ((with_reducible refine gate_callee (f := 75) rfl ?_); refine goesL_ (some 40) rfl rfl Tryd.func75 (by kernel_rfl) rfl #[.slice A0 l0.length c0, .slice A1 l1.length c1] rfl tL ?_; (with_reducible refine (feature_Improve.calls kj3 _ _ l0 _ _ l1 t104 t105 _ ?side1 ?side2 ?side3 ?side4 A14.out).mono ?_); (case side1 => exact tC (Kd.C_below HR0.out HB.out)); (case side2 => exact HC0.out); (case side3 => exact tC (Kd.C_below HR1.out HB.out)); (case side4 => exact HC1.out); rintro e w77 ⟨v106, rfl, ho0, hb⟩; refine ⟨_, rfl, ?_⟩; have n0_ := Aside0.mk (Kd.N_lower (Kd.N_mono (ok' := fun k_ => True) (Kd.S_N (Kd.S_bound ho0)) (fun k_ hk_ => trivial)) (below_size tB)); have n1_ := Aside0.mk (below_step tB hb); clear HB; have HO107 := n0_; have HB := n1_; clear n0_ n1_; (try clear hb); (try clear hb2); (try clear hk); (try clear hi); (try clear ho0)) | ((with_reducible refine gate_callee (f := 76) rfl ?_); refine goesL_ (some 47) rfl rfl Tryd.func76 (by kernel_rfl) rfl #[.slice A0 l0.length c0, .slice A1 l1.length c1, .int .i64 a2] rfl tL ?_; (with_reducible refine (feature_Train.calls kj3 _ _ l0 _ _ l1 a2 t108 t109 t110 _ ?side1 ?side2 ?side3 ?side4 A15.out).mono ?_); (case side1 => exact tC (Kd.C_below HR0.out HB.out)); (case side2 => exact HC0.out); (case side3 => exact tC (Kd.C_below HR1.out HB.out)); (case side4 => exact HC1.out); rintro e w78 ⟨v111, rfl, ho0, hb⟩; refine ⟨_, rfl, ?_⟩; have n0_ := Aside0.mk (Kd.N_elder' (tN HO107.out) (Kd.N_base (Kd.S_N ho0)) hb); have n1_ := Aside0.mk (Kd.N_lower (Kd.N_mono (ok' := fun k_ => some k_ ≠ (v106 : Value).ownBlock) (Kd.S_N (Kd.S_bound ho0)) (fun k_ hk_ => (Kd.fresh' (Kd.N_lt (tN HO107.out)) k_ hk_.2.1))) (below_size tB)); have n2_ := Aside0.mk (below_step tB hb); clear HO107; clear HB; have HO107 := n0_; have HO112 := n1_; have HB := n2_; clear n0_ n1_ n2_; (try clear hb); (try clear hb2); (try clear hk); (try clear hi); (try clear ho0)) | ((with_reducible refine gate_callee (f := 63) rfl ?_); refine goesL_ (some 53) rfl rfl Tryd.func63 (by kernel_rfl) rfl #[.slice A0 l0.length c0, .slice A1 l1.length c1] rfl tL ?_; (with_reducible refine (earshotref03_Fits.calls kj3 _ _ l0 _ _ l1 t113 _ ?side1 ?side2 ?side3 ?side4 A16.out).mono ?_); (case side1 => exact tC (Kd.C_below HR0.out HB.out)); (case side2 => exact HC0.out); (case side3 => exact tC (Kd.C_below HR1.out HB.out)); (case side4 => exact HC1.out); rintro e w79 ⟨rfl, hb⟩; refine ⟨_, rfl, ?_⟩; have n0_ := Aside0.mk (Kd.N_below (tN HO107.out) hb); have n1_ := Aside0.mk (Kd.N_below (tN HO112.out) hb); have n2_ := Aside0.mk (below_step tB hb); clear HO107; clear HO112; clear HB; have HO107 := n0_; have HO112 := n1_; have HB := n2_; clear n0_ n1_ n2_; (try clear hb); (try clear hb2); (try clear hk); (try clear hi); obtain ⟨Ao80, co80, eo80⟩ := Kd.N_slice HO107.out; subst eo80))
        go_ret
        exact ⟨by first | rfl | (simp [errW_none, errW_some] <;> rfl) | (simp [*, errW_none, errW_some] <;> rfl), tB⟩
      ·rw [if_neg c56] at H
       have c56b0 : (t110 == t113) = false := beq_eq_false_iff_ne.mpr c56
       have c56b1 : (t110 != t113) = true := bne_iff_ne.mpr c56
       obtain rfl := Option.some.inj H
       go_wp2_with (first | ((with_reducible refine gate_callee (f := 75) rfl ?_); refine goesL_ (some 40) rfl rfl Tryd.func75 (by kernel_rfl) rfl #[.slice A0 l0.length c0, .slice A1 l1.length c1] rfl tL ?_; (with_reducible refine (feature_Improve.calls kj3 _ _ l0 _ _ l1 t104 t105 _ ?side1 ?side2 ?side3 ?side4 A14.out).mono ?_); (case side1 => exact tC (Kd.C_below HR0.out HB.out)); (case side2 => exact HC0.out); (case side3 => exact tC (Kd.C_below HR1.out HB.out)); (case side4 => exact HC1.out); rintro e w81 ⟨v106, rfl, ho0, hb⟩; refine ⟨_, rfl, ?_⟩; have n0_ := Aside0.mk (Kd.N_lower (Kd.N_mono (ok' := fun k_ => True) (Kd.S_N (Kd.S_bound ho0)) (fun k_ hk_ => trivial)) (below_size tB)); have n1_ := Aside0.mk (below_step tB hb); clear HB; have HO107 := n0_; have HB := n1_; clear n0_ n1_; (try clear hb); (try clear hb2); (try clear hk); (try clear hi); (try clear ho0)) | ((with_reducible refine gate_callee (f := 76) rfl ?_); refine goesL_ (some 47) rfl rfl Tryd.func76 (by kernel_rfl) rfl #[.slice A0 l0.length c0, .slice A1 l1.length c1, .int .i64 a2] rfl tL ?_; (with_reducible refine (feature_Train.calls kj3 _ _ l0 _ _ l1 a2 t108 t109 t110 _ ?side1 ?side2 ?side3 ?side4 A15.out).mono ?_); (case side1 => exact tC (Kd.C_below HR0.out HB.out)); (case side2 => exact HC0.out); (case side3 => exact tC (Kd.C_below HR1.out HB.out)); (case side4 => exact HC1.out); rintro e w82 ⟨v111, rfl, ho0, hb⟩; refine ⟨_, rfl, ?_⟩; have n0_ := Aside0.mk (Kd.N_elder' (tN HO107.out) (Kd.N_base (Kd.S_N ho0)) hb); have n1_ := Aside0.mk (Kd.N_lower (Kd.N_mono (ok' := fun k_ => some k_ ≠ (v106 : Value).ownBlock) (Kd.S_N (Kd.S_bound ho0)) (fun k_ hk_ => (Kd.fresh' (Kd.N_lt (tN HO107.out)) k_ hk_.2.1))) (below_size tB)); have n2_ := Aside0.mk (below_step tB hb); clear HO107; clear HB; have HO107 := n0_; have HO112 := n1_; have HB := n2_; clear n0_ n1_ n2_; (try clear hb); (try clear hb2); (try clear hk); (try clear hi); (try clear ho0)) | ((with_reducible refine gate_callee (f := 63) rfl ?_); refine goesL_ (some 53) rfl rfl Tryd.func63 (by kernel_rfl) rfl #[.slice A0 l0.length c0, .slice A1 l1.length c1] rfl tL ?_; (with_reducible refine (earshotref03_Fits.calls kj3 _ _ l0 _ _ l1 t113 _ ?side1 ?side2 ?side3 ?side4 A16.out).mono ?_); (case side1 => exact tC (Kd.C_below HR0.out HB.out)); (case side2 => exact HC0.out); (case side3 => exact tC (Kd.C_below HR1.out HB.out)); (case side4 => exact HC1.out); rintro e w83 ⟨rfl, hb⟩; refine ⟨_, rfl, ?_⟩; have n0_ := Aside0.mk (Kd.N_below (tN HO107.out) hb); have n1_ := Aside0.mk (Kd.N_below (tN HO112.out) hb); have n2_ := Aside0.mk (below_step tB hb); clear HO107; clear HO112; clear HB; have HO107 := n0_; have HO112 := n1_; have HB := n2_; clear n0_ n1_ n2_; (try clear hb); (try clear hb2); (try clear hk); (try clear hi)))
       go_ret
       exact ⟨by first | rfl | (simp [errW_none, errW_some] <;> rfl) | (simp [*, errW_none, errW_some] <;> rfl), tB⟩
     ·rw [if_neg c55] at H
      have c55b0 : (t105 == t113) = false := beq_eq_false_iff_ne.mpr c55
      have c55b1 : (t105 != t113) = true := bne_iff_ne.mpr c55
      obtain rfl := Option.some.inj H
      go_wp2_with (first | ((with_reducible refine gate_callee (f := 75) rfl ?_); refine goesL_ (some 40) rfl rfl Tryd.func75 (by kernel_rfl) rfl #[.slice A0 l0.length c0, .slice A1 l1.length c1] rfl tL ?_; (with_reducible refine (feature_Improve.calls kj3 _ _ l0 _ _ l1 t104 t105 _ ?side1 ?side2 ?side3 ?side4 A14.out).mono ?_); (case side1 => exact tC (Kd.C_below HR0.out HB.out)); (case side2 => exact HC0.out); (case side3 => exact tC (Kd.C_below HR1.out HB.out)); (case side4 => exact HC1.out); rintro e w84 ⟨v106, rfl, ho0, hb⟩; refine ⟨_, rfl, ?_⟩; have n0_ := Aside0.mk (Kd.N_lower (Kd.N_mono (ok' := fun k_ => True) (Kd.S_N (Kd.S_bound ho0)) (fun k_ hk_ => trivial)) (below_size tB)); have n1_ := Aside0.mk (below_step tB hb); clear HB; have HO107 := n0_; have HB := n1_; clear n0_ n1_; (try clear hb); (try clear hb2); (try clear hk); (try clear hi); (try clear ho0)) | ((with_reducible refine gate_callee (f := 76) rfl ?_); refine goesL_ (some 47) rfl rfl Tryd.func76 (by kernel_rfl) rfl #[.slice A0 l0.length c0, .slice A1 l1.length c1, .int .i64 a2] rfl tL ?_; (with_reducible refine (feature_Train.calls kj3 _ _ l0 _ _ l1 a2 t108 t109 t110 _ ?side1 ?side2 ?side3 ?side4 A15.out).mono ?_); (case side1 => exact tC (Kd.C_below HR0.out HB.out)); (case side2 => exact HC0.out); (case side3 => exact tC (Kd.C_below HR1.out HB.out)); (case side4 => exact HC1.out); rintro e w85 ⟨v111, rfl, ho0, hb⟩; refine ⟨_, rfl, ?_⟩; have n0_ := Aside0.mk (Kd.N_elder' (tN HO107.out) (Kd.N_base (Kd.S_N ho0)) hb); have n1_ := Aside0.mk (Kd.N_lower (Kd.N_mono (ok' := fun k_ => some k_ ≠ (v106 : Value).ownBlock) (Kd.S_N (Kd.S_bound ho0)) (fun k_ hk_ => (Kd.fresh' (Kd.N_lt (tN HO107.out)) k_ hk_.2.1))) (below_size tB)); have n2_ := Aside0.mk (below_step tB hb); clear HO107; clear HB; have HO107 := n0_; have HO112 := n1_; have HB := n2_; clear n0_ n1_ n2_; (try clear hb); (try clear hb2); (try clear hk); (try clear hi); (try clear ho0)) | ((with_reducible refine gate_callee (f := 63) rfl ?_); refine goesL_ (some 53) rfl rfl Tryd.func63 (by kernel_rfl) rfl #[.slice A0 l0.length c0, .slice A1 l1.length c1] rfl tL ?_; (with_reducible refine (earshotref03_Fits.calls kj3 _ _ l0 _ _ l1 t113 _ ?side1 ?side2 ?side3 ?side4 A16.out).mono ?_); (case side1 => exact tC (Kd.C_below HR0.out HB.out)); (case side2 => exact HC0.out); (case side3 => exact tC (Kd.C_below HR1.out HB.out)); (case side4 => exact HC1.out); rintro e w86 ⟨rfl, hb⟩; refine ⟨_, rfl, ?_⟩; have n0_ := Aside0.mk (Kd.N_below (tN HO107.out) hb); have n1_ := Aside0.mk (Kd.N_below (tN HO112.out) hb); have n2_ := Aside0.mk (below_step tB hb); clear HO107; clear HO112; clear HB; have HO107 := n0_; have HO112 := n1_; have HB := n2_; clear n0_ n1_ n2_; (try clear hb); (try clear hb2); (try clear hk); (try clear hi)))
      go_ret
      exact ⟨by first | rfl | (simp [errW_none, errW_some] <;> rfl) | (simp [*, errW_none, errW_some] <;> rfl), tB⟩

/-! ### earshotref03_Length: function 24 -/
def earshotref03_Length.f (a0 : Int) : Option (Bool) := if a0 = 1 then (some true) else (if a0 = 2 then (some true) else (if a0 = 4 then (some true) else (if a0 = 8 then (some true) else (if a0 = 16 then (some true) else (if a0 = 32 then (some true) else (some (a0 == 64)))))))
set_option maxHeartbeats 8000000 in
set_option maxRecDepth 100000 in
theorem earshotref03_Length.calls (a0 : Int) (r : Bool) (w : World) (h : earshotref03_Length.f a0 = some r) :
  Calls Tryd.prog 24 #[.int .i64 a0] w fun e w' => e = .returned (.bool r) ∧ Drawn0 w w' := by
 have H : (if a0 = 1 then (some true) else (if a0 = 2 then (some true) else (if a0 = 4 then (some true) else (if a0 = 8 then (some true) else (if a0 = 16 then (some true) else (if a0 = 32 then (some true) else (some (a0 == 64)))))))) = some r := h
 clear h
 by_cases c2 : a0 = 1
 ·rw [if_pos c2] at H
  have c2b0 : (a0 == 1) = true := beq_iff_eq.mpr c2
  have c2b1 : (a0 != 1) = false := bne_eq_false_iff_eq.mpr c2
  clear c2
  obtain rfl := Option.some.inj H
  go_enter Tryd.func24, Tryd.ntmps24
  go_wp2
  go_ret
  exact ⟨by first | rfl | (simp; done) | (simp [*]; done), by repeat (first | exact Drawn0.refl _ | apply Drawn0.step)⟩
 ·rw [if_neg c2] at H
  have c2b0 : (a0 == 1) = false := beq_eq_false_iff_ne.mpr c2
  have c2b1 : (a0 != 1) = true := bne_iff_ne.mpr c2
  by_cases c3 : a0 = 2
  ·rw [if_pos c3] at H
   have c3b0 : (a0 == 2) = true := beq_iff_eq.mpr c3
   have c3b1 : (a0 != 2) = false := bne_eq_false_iff_eq.mpr c3
   clear c3
   obtain rfl := Option.some.inj H
   go_enter Tryd.func24, Tryd.ntmps24
   go_wp2
   go_ret
   exact ⟨by first | rfl | (simp; done) | (simp [*]; done), by repeat (first | exact Drawn0.refl _ | apply Drawn0.step)⟩
  ·rw [if_neg c3] at H
   have c3b0 : (a0 == 2) = false := beq_eq_false_iff_ne.mpr c3
   have c3b1 : (a0 != 2) = true := bne_iff_ne.mpr c3
   by_cases c4 : a0 = 4
   ·rw [if_pos c4] at H
    have c4b0 : (a0 == 4) = true := beq_iff_eq.mpr c4
    have c4b1 : (a0 != 4) = false := bne_eq_false_iff_eq.mpr c4
    clear c4
    obtain rfl := Option.some.inj H
    go_enter Tryd.func24, Tryd.ntmps24
    go_wp2
    go_ret
    exact ⟨by first | rfl | (simp; done) | (simp [*]; done), by repeat (first | exact Drawn0.refl _ | apply Drawn0.step)⟩
   ·rw [if_neg c4] at H
    have c4b0 : (a0 == 4) = false := beq_eq_false_iff_ne.mpr c4
    have c4b1 : (a0 != 4) = true := bne_iff_ne.mpr c4
    by_cases c5 : a0 = 8
    ·rw [if_pos c5] at H
     have c5b0 : (a0 == 8) = true := beq_iff_eq.mpr c5
     have c5b1 : (a0 != 8) = false := bne_eq_false_iff_eq.mpr c5
     clear c5
     obtain rfl := Option.some.inj H
     go_enter Tryd.func24, Tryd.ntmps24
     go_wp2
     go_ret
     exact ⟨by first | rfl | (simp; done) | (simp [*]; done), by repeat (first | exact Drawn0.refl _ | apply Drawn0.step)⟩
    ·rw [if_neg c5] at H
     have c5b0 : (a0 == 8) = false := beq_eq_false_iff_ne.mpr c5
     have c5b1 : (a0 != 8) = true := bne_iff_ne.mpr c5
     by_cases c6 : a0 = 16
     ·rw [if_pos c6] at H
      have c6b0 : (a0 == 16) = true := beq_iff_eq.mpr c6
      have c6b1 : (a0 != 16) = false := bne_eq_false_iff_eq.mpr c6
      clear c6
      obtain rfl := Option.some.inj H
      go_enter Tryd.func24, Tryd.ntmps24
      go_wp2
      go_ret
      exact ⟨by first | rfl | (simp; done) | (simp [*]; done), by repeat (first | exact Drawn0.refl _ | apply Drawn0.step)⟩
     ·rw [if_neg c6] at H
      have c6b0 : (a0 == 16) = false := beq_eq_false_iff_ne.mpr c6
      have c6b1 : (a0 != 16) = true := bne_iff_ne.mpr c6
      by_cases c7 : a0 = 32
      ·rw [if_pos c7] at H
       have c7b0 : (a0 == 32) = true := beq_iff_eq.mpr c7
       have c7b1 : (a0 != 32) = false := bne_eq_false_iff_eq.mpr c7
       clear c7
       obtain rfl := Option.some.inj H
       go_enter Tryd.func24, Tryd.ntmps24
       go_wp2
       go_ret
       exact ⟨by first | rfl | (simp; done) | (simp [*]; done), by repeat (first | exact Drawn0.refl _ | apply Drawn0.step)⟩
      ·rw [if_neg c7] at H
       have c7b0 : (a0 == 32) = false := beq_eq_false_iff_ne.mpr c7
       have c7b1 : (a0 != 32) = true := bne_iff_ne.mpr c7
       obtain rfl := Option.some.inj H
       go_enter Tryd.func24, Tryd.ntmps24
       go_wp2
       go_ret
       exact ⟨by first | rfl | (simp; done) | (simp [*]; done), by repeat (first | exact Drawn0.refl _ | apply Drawn0.step)⟩

end Go.Proofs.YtdlbmbijobcljaaDoor.X

namespace Go.Proofs.YtdlbmbijobcljaaDoor.Pure
open Go.RowKit Go.Proofs.YtdlbmbijobcljaaDoor.X Go.Proofs.YtdlbmbijobcljaaDoorW.PrintWords Go.Proofs.YtdlbmbijobcljaaDoorW.PrintLast
set_option linter.unusedVariables false
set_option linter.unusedSimpArgs false
theorem w64 {n : Int} (h0 : -9223372036854775808 ≤ n) (h1 : n ≤ 9223372036854775807) : wrap64 n = n := by unfold wrap64; omega
/-- The nearest integer of x/d, halves away from zero. -/
def rnd (x d : Int) : Int := if x < 0 then -((2 * (-x) + d) / (2 * d)) else (2 * x + d) / (2 * d)
theorem rnd_abs_le (x d b : Int) (hd : 0 < d) (h0 : -(b * d) ≤ x) (h1 : x ≤ b * d) : -b ≤ rnd x d ∧ rnd x d ≤ b := by
  have key : ∀ y : Int, 0 ≤ y → y ≤ b * d → 0 ≤ (2 * y + d) / (2 * d) ∧ (2 * y + d) / (2 * d) ≤ b := by
    intro y hy hyb
    refine ⟨Int.ediv_nonneg (by omega) (by omega), ?_⟩
    have : (2 * y + d) / (2 * d) < b + 1 := by
      apply Int.ediv_lt_of_lt_mul (by omega)
      have : (b + 1) * (2 * d) = 2 * (b * d) + 2 * d := by rw [Int.add_mul, Int.mul_left_comm]; omega
      omega
    omega
  unfold rnd
  split
  · have := key (-x) (by omega) (by omega)
    omega
  · have := key x (by omega) (by omega)
    omega
theorem round_pos (x d : Int) (hx : 0 ≤ x) (hx1 : x ≤ 4611686018427387903) (hd : 0 < d) (hd1 : d ≤ 1099511627776) (hs : 2 * x + d ≤ 9223372036854775807) (k : Nat) : earshotref02_Round.f (k + 1) x d = some ((2 * x + d) / (2 * d)) := by
  unfold earshotref02_Round.f
  rw [if_neg (by omega), w64 (n := 2 * d) (by omega) (by omega), if_neg (by omega), w64 (n := 2 * x) (by omega) (by omega), w64 (n := 2 * x + d) (by omega) (by omega), Int.tdiv_eq_ediv_of_nonneg (by omega)]
  have h0 : 0 ≤ (2 * x + d) / (2 * d) := Int.ediv_nonneg (by omega) (by omega)
  have h1 : (2 * x + d) / (2 * d) ≤ 2 * x + d := Int.ediv_le_self _ (by omega)
  rw [w64 (by omega) (by omega)]
theorem round_ev (x d : Int) (hx0 : -4611686018427387903 ≤ x) (hx1 : x ≤ 4611686018427387903) (hd : 0 < d) (hd1 : d ≤ 1099511627776) (hs0 : -(2 * x) + d ≤ 9223372036854775807) (hs : 2 * x + d ≤ 9223372036854775807) : Ev (fun k => earshotref02_Round.f k x d) (rnd x d) := by
  refine ⟨2, fun k hk => ?_⟩
  obtain ⟨m, rfl⟩ : ∃ m, k = m + 2 := ⟨k - 2, by omega⟩
  by_cases h : x < 0
  · have h2 : 0 ≤ (2 * (-x) + d) / (2 * d) := Int.ediv_nonneg (by omega) (by omega)
    have h3 : (2 * (-x) + d) / (2 * d) ≤ 2 * (-x) + d := Int.ediv_le_self _ (by omega)
    show earshotref02_Round.f (m + 1 + 1) x d = _
    rw [earshotref02_Round.f, if_pos h, w64 (by omega) (by omega), round_pos (-x) d (by omega) (by omega) hd hd1 (by omega), Option.bind_some, w64 (by omega) (by omega)]
    unfold rnd
    rw [if_pos h]
  · show earshotref02_Round.f (m + 1 + 1) x d = _
    rw [round_pos x d (by omega) hx1 hd hd1 hs]
    unfold rnd
    rw [if_neg h]
theorem far_pos (x d : Int) (hx : 0 ≤ x) (hx1 : x ≤ 4611686018427387903) (hd : 0 < d) (hd1 : d ≤ 1099511627776) (k : Nat) : feature_far.f (k + 1) x d = some ((2 * x + d) / (2 * d)) := by
  rw [feature_far.f, if_neg (by omega), if_neg (by omega), Int.tdiv_eq_ediv_of_nonneg hx, Int.tmod_eq_emod_of_nonneg hx]
  have h0 := Int.emod_nonneg x (by omega : d ≠ 0)
  have h1 := Int.emod_lt_of_pos x hd
  have h2 := Int.mul_ediv_add_emod x d
  have h3 : 0 ≤ x / d := Int.ediv_nonneg hx (by omega)
  have h4 : x / d ≤ x := Int.ediv_le_self _ hx
  rw [w64 (n := d - x % d) (by omega) (by omega)]
  have e : 2 * x + d = (2 * (x % d) + d) + (x / d) * (2 * d) := by
    have : (x / d) * (2 * d) = 2 * (d * (x / d)) := by rw [Int.mul_left_comm, Int.mul_comm (x / d) d]
    omega
  have e2 : (2 * x + d) / (2 * d) = (2 * (x % d) + d) / (2 * d) + x / d := by rw [e, Int.add_mul_ediv_right _ _ (by omega : 2 * d ≠ 0)]
  by_cases hc : x % d ≥ d - x % d
  · rw [if_pos hc, w64 (n := x / d) (by omega) (by omega), w64 (n := x / d + 1) (by omega) (by omega), e2]
    have : (2 * (x % d) + d) / (2 * d) = 1 := by
      have a1 : 1 ≤ (2 * (x % d) + d) / (2 * d) := by rw [Int.le_ediv_iff_mul_le (by omega)]; omega
      have a2 : (2 * (x % d) + d) / (2 * d) < 2 := Int.ediv_lt_of_lt_mul (by omega) (by omega)
      omega
    rw [this, Int.add_comm]
  · rw [if_neg hc, w64 (n := x / d) (by omega) (by omega), e2, (Int.ediv_eq_zero_of_lt (by omega) (by omega) : (2 * (x % d) + d) / (2 * d) = 0), Int.zero_add]
theorem far_ev (x d : Int) (hx0 : -4611686018427387903 ≤ x) (hx1 : x ≤ 4611686018427387903) (hd : 0 < d) (hd1 : d ≤ 1099511627776) : Ev (fun k => feature_far.f k x d) (rnd x d) := by
  refine ⟨2, fun k hk => ?_⟩
  obtain ⟨m, rfl⟩ : ∃ m, k = m + 2 := ⟨k - 2, by omega⟩
  by_cases h : x < 0
  · have h2 : 0 ≤ (2 * (-x) + d) / (2 * d) := Int.ediv_nonneg (by omega) (by omega)
    have h3 : (2 * (-x) + d) / (2 * d) ≤ (-x) := by
      have : (2 * (-x) + d) / (2 * d) < (-x) + 1 := by
        apply Int.ediv_lt_of_lt_mul (by omega)
        have e : (-x + 1) * (2 * d) = 2 * ((-x) * d) + 2 * d := by rw [Int.add_mul, Int.mul_left_comm]; omega
        have : (-x) * 1 ≤ (-x) * d := Int.mul_le_mul_of_nonneg_left (by omega) (by omega)
        omega
      omega
    show feature_far.f (m + 1 + 1) x d = _
    rw [feature_far.f, if_pos h, w64 (by omega) (by omega), far_pos (-x) d (by omega) (by omega) hd hd1, Option.bind_some, w64 (by omega) (by omega)]
    unfold rnd
    rw [if_pos h]
  · show feature_far.f (m + 1 + 1) x d = _
    rw [far_pos x d (by omega) hx1 hd hd1]
    unfold rnd
    rw [if_neg h]
/-- Is it a length of a transform? -/
def isLen (n : Nat) : Bool := n == 1 || n == 2 || n == 4 || n == 8 || n == 16 || n == 32 || n == 64
theorem possible_small : ∀ n : Nat, n < 200 → feature_possible.f (n : Int) = some (isLen n) := by decide +kernel
theorem length_small : ∀ n : Nat, n < 200 → earshotref03_Length.f (n : Int) = some (isLen n) := by decide +kernel
theorem possible_at (n : Nat) : feature_possible.f (n : Int) = some (isLen n) := by
  by_cases h : n < 200
  · exact possible_small n h
  · unfold feature_possible.f
    rw [if_pos (by omega), if_neg (by omega)]
    have : isLen n = false := by simp only [isLen, Bool.or_eq_false_iff, beq_eq_false_iff_ne]; omega
    rw [this]
theorem length_at (n : Nat) : earshotref03_Length.f (n : Int) = some (isLen n) := by
  by_cases h : n < 200
  · exact length_small n h
  · unfold earshotref03_Length.f
    rw [if_neg (by omega), if_neg (by omega), if_neg (by omega), if_neg (by omega), if_neg (by omega), if_neg (by omega)]
    have : isLen n = false := by simp only [isLen, Bool.or_eq_false_iff, beq_eq_false_iff_ne]; omega
    have e : ((n : Int) == 64) = false := by simp only [beq_eq_false_iff_ne]; omega
    rw [this, e]
theorem isLen_dvd (n : Nat) (h : isLen n = true) : 0 < n ∧ n ≤ 64 ∧ (n : Int) * ((64 : Int) / n) = 64 ∧ 1 ≤ (64 : Int) / n ∧ (64 : Int) / n ≤ 64 := by
  simp only [isLen, Bool.or_eq_true, beq_iff_eq] at h
  rcases h with ((((((h | h) | h) | h) | h) | h) | h) <;> subst h <;> decide
/-- All within bounds. -/
def allIn (l : List Int) (a b : Int) : Bool := l.all fun x => decide (a ≤ x) && decide (x ≤ b)
theorem rd_nat (l : List Int) (j : Nat) : rd l (j : Int) = l.getD j 0 := by unfold rd; rw [Int.toNat_natCast]
theorem all_ev (l : List Int) (a b : Int) (hl : l.length ≤ 4611686018427387904) : Ev (fun k => earshotref02_All.f k l a b) (allIn l a b) := by
  have key : ∀ r j : Nat, j + r = l.length → Ev (fun k => earshotref02_All.l0 k l a b (j : Int)) (allIn (l.drop j) a b) := by
    intro r
    induction r with
    | zero =>
      intro j hj
      refine ⟨1, fun k hk => ?_⟩
      obtain ⟨m, rfl⟩ : ∃ m, k = m + 1 := ⟨k - 1, by omega⟩
      simp only [earshotref02_All.l0]
      rw [if_neg (by omega), List.drop_of_length_le (by omega)]
      rfl
    | succ r ih =>
      intro j hj
      have hjl : j < l.length := by omega
      have e : l.drop j = l[j] :: l.drop (j + 1) := List.drop_eq_getElem_cons hjl
      have er : rd l (j : Int) = l[j] := by rw [rd_nat, List.getD_eq_getElem?_getD, List.getElem?_eq_getElem hjl]; rfl
      obtain ⟨K, hK⟩ := ih (j + 1) (by omega)
      refine ⟨K + 1, fun k hk => ?_⟩
      obtain ⟨m, rfl⟩ : ∃ m, k = m + 1 := ⟨k - 1, by omega⟩
      simp only [earshotref02_All.l0]
      rw [if_pos (by omega), if_pos (by omega), er, e]
      by_cases h1 : l[j] < a
      · rw [if_pos h1]
        simp only [allIn, List.all_cons, (by simpa using h1 : decide (a ≤ l[j]) = false), Bool.false_and]
      · rw [if_neg h1]
        by_cases h2 : l[j] > b
        · rw [if_pos h2]
          simp only [allIn, List.all_cons, (by simpa using h2 : decide (l[j] ≤ b) = false), Bool.and_false, Bool.false_and]
        · rw [if_neg h2, w64 (by omega) (by omega)]
          have : earshotref02_All.l0 m l a b ((j + 1 : Nat) : Int) = some (allIn (l.drop (j + 1)) a b) := hK m (by omega)
          rw [show (j : Int) + 1 = ((j + 1 : Nat) : Int) by omega, this]
          simp only [allIn, List.all_cons, (by simp; omega : decide (a ≤ l[j]) = true), (by simp; omega : decide (l[j] ≤ b) = true), Bool.true_and]
  exact key l.length 0 (by omega)
theorem within_at (l : List Int) (b : Int) (h0 : 0 ≤ b) (h1 : b ≤ 9223372036854775807) : feature_within.f l b = some (allIn l (-b) b) := by
  unfold feature_within.f allIn
  congr 1
  rw [List.not_any_eq_all_not]
  congr 1
  funext x
  unfold beyond
  rw [w64 (by omega) (by omega)]
  by_cases h1 : x < -b <;> by_cases h2 : b < x <;> simp [h1, h2] <;> omega
theorem same_ev (l m : List Int) (hlm : l = m) (hl : l.length ≤ 4611686018427387904) : Ev (fun k => earshotref02_Same.f k l m) true := by
  subst hlm
  have key : ∀ r j : Nat, j + r = l.length → Ev (fun k => earshotref02_Same.l0 k l l (j : Int)) true := by
    intro r
    induction r with
    | zero =>
      intro j hj
      refine ⟨1, fun k hk => ?_⟩
      obtain ⟨m, rfl⟩ : ∃ m, k = m + 1 := ⟨k - 1, by omega⟩
      simp only [earshotref02_Same.l0]
      rw [if_neg (by omega)]
    | succ r ih =>
      intro j hj
      obtain ⟨K, hK⟩ := ih (j + 1) (by omega)
      refine ⟨K + 1, fun k hk => ?_⟩
      obtain ⟨m, rfl⟩ : ∃ m, k = m + 1 := ⟨k - 1, by omega⟩
      simp only [earshotref02_Same.l0]
      rw [if_pos (by omega), if_pos (by omega), if_pos (by omega), if_pos trivial, w64 (by omega) (by omega), show (j : Int) + 1 = ((j + 1 : Nat) : Int) by omega]
      exact hK m (by omega)
  refine Ev.congr (fun k => ?_) (key l.length 0 (by omega))
  unfold earshotref02_Same.f
  rw [if_pos rfl]
  rfl
theorem cosv_range (j : Int) : -16384 ≤ cosv j ∧ cosv j ≤ 16384 := by
  unfold cosv
  have a := tab_range (j % 256); have b := tab_range (128 - j % 256); have c := tab_range (j % 256 - 128); have d := tab_range (256 - j % 256)
  split
  · omega
  · split
    · omega
    · split <;> omega
end Go.Proofs.YtdlbmbijobcljaaDoor.Pure

namespace Go.Proofs.YtdlbmbijobcljaaDoor.Pure
open Go.RowKit Go.Proofs.YtdlbmbijobcljaaDoor.X Go.Proofs.YtdlbmbijobcljaaDoorW.PrintWords Go.Proofs.YtdlbmbijobcljaaDoorW.PrintLast Go.Proofs.YtdlbmbijobcljaaDoorW.PrintMore
set_option linter.unusedVariables false
set_option linter.unusedSimpArgs false
/-- A loop that counts up: from its end back to any index. -/
theorem up {α : Type} (G : Nat → Nat → Option α) (R : Nat → α) (n : Nat) (hend : Ev (G n) (R n)) (hstep : ∀ j, j < n → Ev (G (j + 1)) (R (j + 1)) → Ev (G j) (R j)) : ∀ j, j ≤ n → Ev (G j) (R j) := by
  have key : ∀ d j, j + d = n → Ev (G j) (R j) := by
    intro d
    induction d with
    | zero => intro j h; rw [show j = n by omega]; exact hend
    | succ d ih => intro j h; exact hstep j (by omega) (ih (j + 1) (by omega))
  intro j hj
  exact key (n - j) j (by omega)
theorem rd2_nat (v : List (List Int)) (j : Nat) : rd_L2 v (j : Int) = v.getD j [] := by unfold rd_L2; rw [Int.toNat_natCast]
theorem rd2_zero (v : List (List Int)) : rd_L2 v 0 = v.getD 0 [] := rfl
theorem rd2_lt (v : List (List Int)) (j : Nat) (h : j < v.length) : rd_L2 v (j : Int) = v[j] := by rw [rd2_nat, List.getD_eq_getElem?_getD, List.getElem?_eq_getElem h]; rfl
theorem drop_cons {α : Type} (v : List α) (j : Nat) (h : j < v.length) : v.drop j = v[j] :: v.drop (j + 1) := List.drop_eq_getElem_cons h
/-- One vector of c components. -/
def vecOne (c : Nat) (x : List Int) : Bool := x.length == c && decide (1 ≤ x.length) && decide (x.length ≤ 64) && allIn x (-1048576) 1048576
def vecsOK (v : List (List Int)) : Bool := v.all (vecOne (v.getD 0 []).length)
def errB (b : Bool) : Int := cond b 0 2
/-- The error of a list of vectors. -/
def wrongOf (v : List (List Int)) : Int := if v.length > 10000 then 5 else errB (vecsOK v)
theorem vectors_ev (v : List (List Int)) (hv : v.length ≤ 9223372036854775807) : Ev (fun k => feature_vectors.f k v) (wrongOf v) := by
  unfold wrongOf
  by_cases h0 : v.length > 10000
  · rw [if_pos h0]
    refine Ev.congr (fun k => ?_) (Ev.now _)
    unfold feature_vectors.f
    rw [if_pos (by omega)]
  · rw [if_neg h0]
    have h1 := up (fun j k => feature_vectors.l0 k v v (v.length : Int) (j : Int)) (fun j => errB ((v.drop j).all (vecOne (v.getD 0 []).length))) v.length (by
        refine Ev.step (f := fun _ => some 0) (fun k => ?_) (by rw [List.drop_length]; exact Ev.now _)
        simp only [feature_vectors.l0]
        rw [if_neg (by omega)]) (by
        rintro j hj ⟨K, ih⟩
        refine ⟨K + 1, fun k hk => ?_⟩
        obtain ⟨m, rfl⟩ : ∃ m, k = m + 1 := ⟨k - 1, by omega⟩
        have ih := ih m (by omega)
        simp only [feature_vectors.l0]
        rw [if_pos (by omega), if_pos (by omega), if_pos (by omega), if_pos (by omega), rd2_lt v j hj, rd2_zero, within_at _ _ (by omega) (by omega), w64 (n := (j : Int) + 1) (by omega) (by omega), drop_cons v j hj]
        simp only [List.all_cons, vecOne, Option.bind_some]
        by_cases a1 : v[j].length = (v.getD 0 []).length
        · rw [if_pos (by omega)]
          by_cases a2 : v[j].length < 1
          · rw [if_pos (by omega), (decide_eq_false (by omega) : decide (1 ≤ v[j].length) = false)]; simp [errB]
          · rw [if_neg (by omega)]
            by_cases a3 : v[j].length > 64
            · rw [if_pos (by omega), (decide_eq_false (by omega) : decide (v[j].length ≤ 64) = false)]; simp [errB]
            · rw [if_neg (by omega)]
              cases a4 : allIn v[j] (-1048576) 1048576 with
              | false => simp [errB]
              | true =>
                rw [if_pos rfl]
                refine Eq.trans ih ?_
                have b1 : (v[j].length == (v.getD 0 []).length) = true := by simpa using a1
                have b2 : decide (1 ≤ v[j].length) = true := decide_eq_true (by omega)
                have b3 : decide (v[j].length ≤ 64) = true := decide_eq_true (by omega)
                rw [b1, b2, b3]
                simp only [Bool.true_and]
        · rw [if_neg (by omega)]
          have b1 : (v[j].length == (v.getD 0 []).length) = false := by simpa using a1
          rw [b1]
          simp [errB]) 0 (by omega)
    refine Ev.congr (fun k => ?_) h1
    unfold feature_vectors.f
    rw [if_neg (by omega)]
    rfl
theorem Vectors_ev (v : List (List Int)) (hv : v.length ≤ 9223372036854775807) : Ev (fun k => earshotref03_Vectors.f k v) (vecsOK v) := by
  have h1 := up (fun j k => earshotref03_Vectors.l0 k v (j : Int)) (fun j => (v.drop j).all (vecOne (v.getD 0 []).length)) v.length (by
        refine Ev.step (f := fun _ => some true) (fun k => ?_) (by rw [List.drop_length]; exact Ev.now _)
        simp only [earshotref03_Vectors.l0]
        rw [if_neg (by omega)]) (by
        rintro j hj ⟨K, ih⟩
        rw [drop_cons v j hj]
        simp only [List.all_cons, vecOne]
        by_cases a2 : v[j].length < 1
        · refine ⟨1, fun k hk => ?_⟩
          obtain ⟨m, rfl⟩ : ∃ m, k = m + 1 := ⟨k - 1, by omega⟩
          simp only [earshotref03_Vectors.l0]
          rw [rd2_lt v j hj, if_pos (by omega), if_pos (by omega), if_pos (by omega)]
          rw [(decide_eq_false (by omega) : decide (1 ≤ v[j].length) = false)]
          simp
        · by_cases a3 : v[j].length > 64
          · refine ⟨1, fun k hk => ?_⟩
            obtain ⟨m, rfl⟩ : ∃ m, k = m + 1 := ⟨k - 1, by omega⟩
            simp only [earshotref03_Vectors.l0]
            rw [rd2_lt v j hj, if_pos (by omega), if_pos (by omega), if_neg (by omega), if_pos (by omega)]
            rw [(decide_eq_false (by omega) : decide (v[j].length ≤ 64) = false)]
            simp
          · obtain ⟨K2, ha⟩ := all_ev v[j] (-1048576) 1048576 (by omega)
            refine ⟨K + K2 + 1, fun k hk => ?_⟩
            obtain ⟨m, rfl⟩ : ∃ m, k = m + 1 := ⟨k - 1, by omega⟩
            have ih := ih m (by omega)
            have ha := ha m (by omega)
            dsimp only at ha
            simp only [earshotref03_Vectors.l0]
            rw [rd2_lt v j hj, rd2_zero, if_pos (by omega), if_pos (by omega), if_neg (by omega), if_neg (by omega), if_pos (by omega), ha, w64 (n := (j : Int) + 1) (by omega) (by omega)]
            simp only [Option.bind_some]
            by_cases a1 : v[j].length = (v.getD 0 []).length
            · rw [if_pos (by omega)]
              cases a4 : allIn v[j] (-1048576) 1048576 with
              | false => simp
              | true =>
                rw [if_pos rfl]
                refine Eq.trans ih ?_
                have b1 : (v[j].length == (v.getD 0 []).length) = true := by simpa using a1
                have b2 : decide (1 ≤ v[j].length) = true := decide_eq_true (by omega)
                have b3 : decide (v[j].length ≤ 64) = true := decide_eq_true (by omega)
                rw [b1, b2, b3]
                simp only [Bool.true_and]
            · rw [if_neg (by omega)]
              have b1 : (v[j].length == (v.getD 0 []).length) = false := by simpa using a1
              rw [b1]
              simp) 0 (by omega)
  exact h1
theorem Wrong_ev (v : List (List Int)) (hv : v.length ≤ 9223372036854775807) : Ev (fun k => earshotref03_Wrong.f k v) (wrongOf v) := by
  unfold wrongOf
  by_cases h0 : v.length > 10000
  · rw [if_pos h0]
    refine Ev.congr (fun k => ?_) (Ev.now _)
    unfold earshotref03_Wrong.f
    rw [if_pos (by omega)]
  · rw [if_neg h0]
    obtain ⟨K, h1⟩ := Vectors_ev v hv
    refine ⟨K, fun k hk => ?_⟩
    have h1 := h1 k hk
    dsimp only at h1 ⊢
    unfold earshotref03_Wrong.f
    rw [if_neg (by omega), h1, Option.bind_some]
    cases vecsOK v <;> rfl
/-- Few vectors, or too many. -/
def fewOf (v : List (List Int)) (m : Nat) : Bool := (v.take (m + 1)).all (fun x => decide (x.length ≤ 70)) && (decide (v.length ≤ m) || (decide (v.length > 10000) && decide (v.length < 20000)))
theorem few_ev (v : List (List Int)) (m : Nat) (hm : m ≤ 100) (hv : v.length ≤ 9223372036854775807) : Ev (fun k => earshotlaw03_few.f k v (m : Int)) (fewOf v m) := by
  have stop : ∀ j : Int, Ev (fun k => earshotlaw03_few.j1 k v (m : Int) j false) (decide (v.length ≤ m) || (decide (v.length > 10000) && decide (v.length < 20000))) := by
    intro j
    refine Ev.step (f := fun k => some (decide (v.length ≤ m) || (decide (v.length > 10000) && decide (v.length < 20000)))) (fun k => ?_) (Ev.now _)
    simp only [earshotlaw03_few.j1]
    rw [if_neg (by simp)]
    by_cases a1 : v.length ≤ m
    · rw [if_pos (by omega), decide_eq_true a1]; rfl
    · rw [if_neg (by omega), decide_eq_false a1]
      by_cases a2 : v.length > 10000
      · rw [if_pos (by omega), decide_eq_true a2]
        simp only [Bool.false_or, Bool.true_and]
        congr 2
        exact propext ⟨fun h => by omega, fun h => by omega⟩
      · rw [if_neg (by omega), decide_eq_false a2]; rfl
  have h1 := up (fun j k => earshotlaw03_few.l0 k v (m : Int) (j : Int)) (fun j => ((v.take (m + 1)).drop j).all (fun x => decide (x.length ≤ 70)) && (decide (v.length ≤ m) || (decide (v.length > 10000) && decide (v.length < 20000)))) (v.take (m + 1)).length (by
        rw [List.drop_length]
        simp only [List.all_nil, Bool.true_and]
        rw [List.length_take]
        refine Ev.step (fun k => ?_) (stop ((min (m + 1) v.length : Nat) : Int))
        simp only [earshotlaw03_few.l0]
        by_cases a1 : v.length ≤ m + 1
        · rw [if_neg (by omega)]
        · rw [if_pos (by omega), decide_eq_false (by omega)]) (by
        rintro j hj ⟨K, ih⟩
        have hj2 := hj
        rw [List.length_take] at hj2
        rw [drop_cons _ j hj, List.all_cons]
        have e : (v.take (m + 1))[j] = v[j]'(by omega) := by rw [List.getElem_take]
        rw [e]
        refine ⟨K + 2, fun k hk => ?_⟩
        obtain ⟨q, rfl⟩ : ∃ q, k = q + 1 + 1 := ⟨k - 2, by omega⟩
        have ih := ih q (by omega)
        simp only [earshotlaw03_few.l0]
        rw [if_pos (by omega), decide_eq_true (by omega)]
        simp only [earshotlaw03_few.j1]
        rw [if_pos trivial, if_pos (by omega), if_pos (by omega), rd2_lt v j (by omega), w64 (n := (j : Int) + 1) (by omega) (by omega)]
        by_cases a1 : v[j].length > 70
        · rw [if_pos (by omega), decide_eq_false (by omega)]; simp
        · rw [if_neg (by omega), decide_eq_true (by omega)]
          refine Eq.trans ih ?_
          simp only [Bool.true_and]) 0 (by omega)
  exact h1
theorem same_dec (l m : List Int) (hl : l.length ≤ 4611686018427387904) : Ev (fun k => earshotref02_Same.f k l m) (decide (l = m)) := by
  by_cases hlen : l.length = m.length
  · have h1 := up (fun j k => earshotref02_Same.l0 k l m (j : Int)) (fun j => decide (l.drop j = m.drop j)) l.length (by
        refine Ev.step (f := fun _ => some true) (fun k => ?_) (by rw [List.drop_length, hlen, List.drop_length]; simpa using Ev.now true)
        simp only [earshotref02_Same.l0]
        rw [if_neg (by omega)]) (by
        rintro j hj ⟨K, ih⟩
        refine ⟨K + 1, fun k hk => ?_⟩
        obtain ⟨q, rfl⟩ : ∃ q, k = q + 1 := ⟨k - 1, by omega⟩
        have ih := ih q (by omega)
        simp only [earshotref02_Same.l0]
        have hjm : j < m.length := by omega
        rw [if_pos (by omega), if_pos (by omega), if_pos (by omega), w64 (n := (j : Int) + 1) (by omega) (by omega), drop_cons l j hj, drop_cons m j hjm, rd_nat, rd_nat, List.getD_eq_getElem?_getD, List.getElem?_eq_getElem hj, List.getD_eq_getElem?_getD, List.getElem?_eq_getElem hjm]
        simp only [Option.getD_some]
        by_cases e : l[j] = m[j]
        · rw [if_pos e]
          refine Eq.trans ih ?_
          rw [e]
          simp only [List.cons.injEq, true_and]
        · rw [if_neg e]
          simp only [List.cons.injEq, e, false_and, decide_false]) 0 (by omega)
    refine Ev.congr (fun k => ?_) h1
    unfold earshotref02_Same.f
    rw [if_pos (by omega)]
    rfl
  · rw [decide_eq_false (by rintro rfl; exact hlen rfl)]
    refine Ev.congr (fun k => ?_) (Ev.now _)
    unfold earshotref02_Same.f
    rw [if_neg (by omega)]
theorem sameLists_dec (l m : List (List Int)) (hl : l.length ≤ 4611686018427387904) (hr : ∀ x ∈ l, x.length ≤ 4611686018427387904) : Ev (fun k => earshotref02_SameLists.f k l m) (decide (l = m)) := by
  by_cases hlen : l.length = m.length
  · have h1 := up (fun j k => earshotref02_SameLists.l0 k l m (j : Int)) (fun j => decide (l.drop j = m.drop j)) l.length (by
        refine Ev.step (f := fun _ => some true) (fun k => ?_) (by rw [List.drop_length, hlen, List.drop_length]; simpa using Ev.now true)
        simp only [earshotref02_SameLists.l0]
        rw [if_neg (by omega)]) (by
        rintro j hj ⟨K, ih⟩
        have hjm : j < m.length := by omega
        obtain ⟨K2, hs⟩ := same_dec l[j] m[j] (hr _ (List.getElem_mem hj))
        refine ⟨K + K2 + 1, fun k hk => ?_⟩
        obtain ⟨q, rfl⟩ : ∃ q, k = q + 1 := ⟨k - 1, by omega⟩
        have ih := ih q (by omega)
        have hs := hs q (by omega)
        dsimp only at hs
        simp only [earshotref02_SameLists.l0]
        rw [if_pos (by omega), if_pos (by omega), if_pos (by omega), w64 (n := (j : Int) + 1) (by omega) (by omega), drop_cons l j hj, drop_cons m j hjm, rd2_lt l j hj, rd2_lt m j hjm, hs, Option.bind_some]
        by_cases e : l[j] = m[j]
        · rw [if_pos (by simpa using e)]
          refine Eq.trans ih ?_
          rw [e]
          simp only [List.cons.injEq, true_and]
        · rw [if_neg (by simpa using e)]
          simp only [List.cons.injEq, e, false_and, decide_false]) 0 (by omega)
    refine Ev.congr (fun k => ?_) h1
    unfold earshotref02_SameLists.f
    rw [if_pos (by omega)]
    rfl
  · rw [decide_eq_false (by rintro rfl; exact hlen rfl)]
    refine Ev.congr (fun k => ?_) (Ev.now _)
    unfold earshotref02_SameLists.f
    rw [if_neg (by omega)]
end Go.Proofs.YtdlbmbijobcljaaDoor.Pure

namespace Go.Proofs.YtdlbmbijobcljaaDoor.X
open Go.RowKit Go.Proofs.YtdlbmbijobcljaaDoorW.PrintWords Go.Proofs.YtdlbmbijobcljaaDoorW.PrintLast Go.Proofs.YtdlbmbijobcljaaDoorW.PrintMore
attribute [local go_sem] max2_int min2_int max_two min_two max_three min_three max_four min_four   -- for this text's walks alone
set_option linter.unusedVariables false
set_option linter.unusedSimpArgs false
/-! ### earshotref03_Inverse: function 27 -/
mutual
def earshotref03_Inverse.l0 : Nat → List Int → Int → List Int → Int → Option (List Int)
 | 0, _, _, _, _ => none
 | k + 1, x0, x3, x4, x5 => if x5 < x3 then (if 0 < (x0.length : Int) then (earshotref03_Inverse.l1 k x0 x3 x4 x5 (wrap64 (16384 * (rd x0 0))) 1) else (none)) else (some x4)
def earshotref03_Inverse.l1 : Nat → List Int → Int → List Int → Int → Int → Int → Option (List Int)
 | 0, _, _, _, _, _, _ => none
 | k + 1, x0, x3, x4, x5, x6, x7 => if x7 < x3 then (if 0 ≤ x7 then (if x7 < (x0.length : Int) then (if x3 = 0 then (none) else ((earshotref03_C.f (wrap64 ((wrap64 ((wrap64 ((wrap64 (2 * x5)) + 1)) * x7)) * (wrap64 ((64 : Int) / x3))))).bind fun t106 => (earshotref03_Inverse.l1 k x0 x3 x4 x5 (wrap64 (x6 + (wrap64 ((wrap64 (2 * (rd x0 x7))) * t106)))) (wrap64 (x7 + 1))))) else (none)) else (none)) else ((earshotref02_Round.f k x6 (wrap64 (x3 * 268435456))).bind fun t107 => (if 0 ≤ x5 then (if x5 < (x4.length : Int) then (earshotref03_Inverse.l0 k x0 x3 (x4.set (x5 : Int).toNat t107) (wrap64 (x5 + 1))) else (none)) else (none)))
end
def earshotref03_Inverse.f (k : Nat) (l0 : List Int) : Option (List Int) := if 0 ≤ (l0.length : Int) then (if ((l0.length : Int) : Int).toNat ≤ 35184372088832 then (earshotref03_Inverse.l0 k l0 (l0.length : Int) (List.replicate ((l0.length : Int) : Int).toNat 0) 0) else (none)) else (none)
theorem earshotref03_Inverse.mono_l : ∀ k, (∀ y0 y1 y2 y3, LeO (earshotref03_Inverse.l0 k y0 y1 y2 y3) (earshotref03_Inverse.l0 (k + 1) y0 y1 y2 y3)) ∧ (∀ y0 y1 y2 y3 y4 y5, LeO (earshotref03_Inverse.l1 k y0 y1 y2 y3 y4 y5) (earshotref03_Inverse.l1 (k + 1) y0 y1 y2 y3 y4 y5))
 | 0 => ⟨fun _ _ _ _ r h => by simp [earshotref03_Inverse.l0] at h, fun _ _ _ _ _ _ r h => by simp [earshotref03_Inverse.l1] at h⟩
 | k + 1 => by
  obtain ⟨ih0, ih1⟩ := earshotref03_Inverse.mono_l k
  refine ⟨?_, ?_⟩
  ·intro y0 y1 y2 y3
   unfold earshotref03_Inverse.l0
   repeat' first
   | (with_reducible exact ih0 _ _ _ _)
   | (with_reducible exact ih1 _ _ _ _ _ _)
   | (with_reducible exact earshotref02_Round.mono _ _ _)
   | (with_reducible exact LeO.refl _)
   | (with_reducible exact LeO.none _)
   | (with_reducible refine LeO.ite ?_ ?_)
   | (with_reducible refine LeO.bind ?_ (fun _ => ?_))
   | exact ih0 _ _ _ _
   | exact ih1 _ _ _ _ _ _
   | exact earshotref02_Round.mono _ _ _
   | exact LeO.none _
   | refine LeO.ite ?_ ?_
   | refine LeO.bind ?_ (fun _ => ?_)
  ·intro y0 y1 y2 y3 y4 y5
   unfold earshotref03_Inverse.l1
   repeat' first
   | (with_reducible exact ih0 _ _ _ _)
   | (with_reducible exact ih1 _ _ _ _ _ _)
   | (with_reducible exact earshotref02_Round.mono _ _ _)
   | (with_reducible exact LeO.refl _)
   | (with_reducible exact LeO.none _)
   | (with_reducible refine LeO.ite ?_ ?_)
   | (with_reducible refine LeO.bind ?_ (fun _ => ?_))
   | exact ih0 _ _ _ _
   | exact ih1 _ _ _ _ _ _
   | exact earshotref02_Round.mono _ _ _
   | exact LeO.none _
   | refine LeO.ite ?_ ?_
   | refine LeO.bind ?_ (fun _ => ?_)
theorem earshotref03_Inverse.mono : ∀ a0 k, LeO (earshotref03_Inverse.f k a0) (earshotref03_Inverse.f (k + 1) a0) := by
 intro a0 k
 obtain ⟨ih0, ih1⟩ := earshotref03_Inverse.mono_l k
 unfold earshotref03_Inverse.f
 repeat' first
   | (with_reducible exact ih0 _ _ _ _)
   | (with_reducible exact ih1 _ _ _ _ _ _)
   | (with_reducible exact earshotref02_Round.mono _ _ _)
   | (with_reducible exact LeO.refl _)
   | (with_reducible exact LeO.none _)
   | (with_reducible refine LeO.ite ?_ ?_)
   | (with_reducible refine LeO.bind ?_ (fun _ => ?_))
   | exact ih0 _ _ _ _
   | exact ih1 _ _ _ _ _ _
   | exact earshotref02_Round.mono _ _ _
   | exact LeO.none _
   | refine LeO.ite ?_ ?_
   | refine LeO.bind ?_ (fun _ => ?_)
set_option maxHeartbeats 8000000 in
set_option maxRecDepth 100000 in
theorem earshotref03_Inverse.calls (k : Nat) (A0 : Option Addr) (c0 : Nat) (l0 : List Int) (r : List Int) (w : World) (ht : Kd.C (Kd.int .i64) w (some ⟨0, 0, none⟩) 65 tabL) (hr0 : Kd.C (Kd.int .i64) w A0 l0.length l0) (hc0 : l0.length ≤ c0) (h : earshotref03_Inverse.f k l0 = some r) :
  Calls Tryd.prog 27 #[.slice A0 l0.length c0] w fun e w' => ∃ v0_ : Value, e = .returned (v0_) ∧ Kd.R (Kd.int .i64) 3 w' w.heap.size (fun _ => True) v0_ r ∧ Below w.heap.size w w' := by
 have HRT := Aside0.mk ht
 clear ht
 have HR0 := Aside0.mk hr0
 have HC0 := Aside0.mk hc0
 clear hr0 hc0
 have HB := Aside0.mk (Below.refl w.heap.size w)
 have H : (if 0 ≤ (l0.length : Int) then (if ((l0.length : Int) : Int).toNat ≤ 35184372088832 then (earshotref03_Inverse.l0 k l0 (l0.length : Int) (List.replicate ((l0.length : Int) : Int).toNat 0) 0) else (none)) else (none)) = some r := h
 clear h
 by_cases c2 : 0 ≤ (l0.length : Int)
 ·rw [if_pos c2] at H
  have c2b0 := eq_true c2
  have c2b1 := decide_eq_true c2
  clear c2
  by_cases c3 : ((l0.length : Int) : Int).toNat ≤ 35184372088832
  ·rw [if_pos c3] at H
   have c3b0 := eq_true c3
   have c3b1 := decide_eq_true c3
   clear c3
   obtain ⟨y101, hy101⟩ : ∃ y_ : List Int, y_ = (List.replicate ((l0.length : Int) : Int).toNat 0) := ⟨_, rfl⟩
   replace H : (earshotref03_Inverse.l0 k l0 (l0.length : Int) y101 0) = some r := by first | (rw [hy101]; with_reducible exact H) | (have H2_ := (Option.bind_some _ _).symm.trans H; rw [hy101]; with_reducible exact H2_) | (have H2_ := (Option.bind_some _ _).symm.trans H; with_reducible exact H2_) | with_reducible exact H | (rw [hy101]; exact H) | exact H
   have Ny101 := Aside0.mk hy101
   clear hy101
   have H' := Aside0.mk H
   clear H
   go_enter Tryd.func27, Tryd.ntmps27
   go_wp2_with (first | ((with_reducible refine gate_dst (N := 11) rfl ?_); refine Kd.R_make (Kd.int .i64) _ 3 rfl (N := 11) rfl 22 _ _ rfl (l0.length : Int) rfl rfl Tryd.underlying22 (.int .i64 0) 8 info3 rfl (by decide) (by omega) 0 (ok := fun _ => True) (okp := fun _ => True) rfl (fun _ hk => hk) trivial (of_decide_eq_true tA) (Nat.le_trans (Nat.mul_le_mul_right _ (of_decide_eq_true tA : (l0.length : Int).toNat ≤ 35184372088832)) (by omega)) (Below.refl _ _) (Nat.le_refl _) ?_; intro v102 w4 ho5 hb hg_ hnew_; clear hg_ hnew_; (first | rw [← Ny101.out] at ho5 | (simp only [Int.reduceToNat] at ho5; rw [← Ny101.out] at ho5)); have n0_ := Aside0.mk (Kd.R_lower ho5 (below_size tB)); have n1_ := Aside0.mk (below_step tB hb); clear HB; have HO103 := n0_; have HB := n1_; clear n0_ n1_; clear hb ho5))
   repeat (go_quiet (first | ((with_reducible refine gate_dst (N := 11) rfl ?_); refine Kd.R_make (Kd.int .i64) _ 3 rfl (N := 11) rfl 22 _ _ rfl (l0.length : Int) rfl rfl Tryd.underlying22 (.int .i64 0) 8 info3 rfl (by decide) (by omega) 0 (ok := fun _ => True) (okp := fun _ => True) rfl (fun _ hk => hk) trivial (of_decide_eq_true tA) (Nat.le_trans (Nat.mul_le_mul_right _ (of_decide_eq_true tA : (l0.length : Int).toNat ≤ 35184372088832)) (by omega)) (Below.refl _ _) (Nat.le_refl _) ?_; intro v102 w4 ho5 hb hg_ hnew_; clear hg_ hnew_; (first | rw [← Ny101.out] at ho5 | (simp only [Int.reduceToNat] at ho5; rw [← Ny101.out] at ho5)); have n0_ := Aside0.mk (Kd.R_lower ho5 (below_size tB)); have n1_ := Aside0.mk (below_step tB hb); clear HB; have HO103 := n0_; have HB := n1_; clear n0_ n1_; clear hb ho5)); try go_wp2_with (first | ((with_reducible refine gate_dst (N := 11) rfl ?_); refine Kd.R_make (Kd.int .i64) _ 3 rfl (N := 11) rfl 22 _ _ rfl (l0.length : Int) rfl rfl Tryd.underlying22 (.int .i64 0) 8 info3 rfl (by decide) (by omega) 0 (ok := fun _ => True) (okp := fun _ => True) rfl (fun _ hk => hk) trivial (of_decide_eq_true tA) (Nat.le_trans (Nat.mul_le_mul_right _ (of_decide_eq_true tA : (l0.length : Int).toNat ≤ 35184372088832)) (by omega)) (Below.refl _ _) (Nat.le_refl _) ?_; intro v102 w4 ho5 hb hg_ hnew_; clear hg_ hnew_; (first | rw [← Ny101.out] at ho5 | (simp only [Int.reduceToNat] at ho5; rw [← Ny101.out] at ho5)); have n0_ := Aside0.mk (Kd.R_lower ho5 (below_size tB)); have n1_ := Aside0.mk (below_step tB hb); clear HB; have HO103 := n0_; have HB := n1_; clear n0_ n1_; clear hb ho5)))
   go_loopg [5] k (fun kq v5 w' => ∃ (x4_1 : List Int) (x5_1 : Int), v5 = .int .i64 x5_1 ∧ Aside0 (earshotref03_Inverse.l0 kq l0 (l0.length : Int) x4_1 x5_1 = some r) ∧ Aside0 (kq ≤ k) ∧ Aside0 (Kd.R (Kd.int .i64) 3 w' w.heap.size (fun _ => True) v102 x4_1) ∧ Aside0 (Below w.heap.size w w'))
   case atStart => exact ⟨(y101), (0), (by first | rfl | (simp; done) | (simp only [i64_w]; done) | (simp [*]; done)), H', ⟨Nat.le_refl _⟩, ⟨tR HO103.out⟩, ⟨tB⟩⟩
   case round =>
    clear H'
    try clear c2
    try clear c2b0
    try clear c2b1
    try clear p2
    try clear c3
    try clear c3b0
    try clear c3b1
    obtain ⟨x4_1, x5_1, rfl, HA, HK1, HO_4, HB⟩ := hrel
    cases gk with
    | zero => exact absurd HA.out (by simp [earshotref03_Inverse.l0])
    | succ k1 =>
     have H := HA.out
     clear HA
     simp only [earshotref03_Inverse.l0] at H
     by_cases c6 : x5_1 < (l0.length : Int)
     ·rw [if_pos c6] at H
      have c6b0 := decide_eq_true c6
      clear c6
      by_cases c7 : 0 < (l0.length : Int)
      ·rw [if_pos c7] at H
       have c7b0 := decide_eq_true c7
       have c7b1 : decide (0 < l0.length) = true := decide_eq_true (by omega)
       clear c7
       have H' := Aside0.mk H
       clear H
       have p104 : 0 ≤ (0 : Int) := (by omega)
       have q104 : 0 < (l0.length : Int) := of_decide_eq_true tA
       obtain ⟨ad104, e104, hx104_0⟩ := Kd.at_int HR0.out 0 p104 q104
       cases e104
       have qi104 : (0 < l0.length) = True := eq_true (by omega)
       (try rw [show ((0 : Int)).toNat = 0 from rfl] at hx104_0)
       (try rw [Addr.add_zero'] at hx104_0)
       replace hx104_0 := (HB.out.cell (World.block_lt_of_cell? w _ hx104_0)).trans hx104_0
       replace p104 := eq_true p104
       replace q104 := eq_true q104
       go_wp2
       repeat (go_quiet (fail); try go_wp2)
       go_loopg [6, 7] k1 (fun kq v6 v7 w' => ∃ (x6_2 : Int) (x7_2 : Int), v6 = .int .i64 x6_2 ∧ v7 = .int .i64 x7_2 ∧ Aside0 (earshotref03_Inverse.l1 kq l0 (l0.length : Int) x4_1 x5_1 x6_2 x7_2 = some r) ∧ Aside0 (kq ≤ k1) ∧ Aside0 (Kd.R (Kd.int .i64) 3 w' w.heap.size (fun _ => True) v102 x4_1) ∧ Aside0 (Below w.heap.size w w'))
       case atStart => exact ⟨(wrap64 (16384 * (rd l0 0))), (1), (by first | rfl | (simp; done) | (simp only [i64_w]; done) | (simp [*]; done)), (by first | rfl | (simp; done) | (simp only [i64_w]; done) | (simp [*]; done)), H', ⟨Nat.le_refl _⟩, ⟨tR HO_4.out⟩, ⟨tB⟩⟩
       case round =>
        clear H'
        try clear p1
        try clear q1
        try clear hx1
        try clear qi1
        try clear c2
        try clear c2b0
        try clear c2b1
        try clear p2
        try clear c3
        try clear c3b0
        try clear c3b1
        try clear c6
        try clear c6b0
        try clear p6
        try clear c7
        try clear c7b0
        try clear c7b1
        try clear hx104_0
        try clear p104
        try clear p2
        try clear q104
        obtain ⟨x6_2, x7_2, rfl, rfl, HA, HK2, HO_4, HB⟩ := hrel
        cases gk with
        | zero => exact absurd HA.out (by simp [earshotref03_Inverse.l1])
        | succ k2 =>
         have H := HA.out
         clear HA
         simp only [earshotref03_Inverse.l1] at H
         by_cases c8 : x7_2 < (l0.length : Int)
         ·rw [if_pos c8] at H
          have c8b0 := decide_eq_true c8
          clear c8
          by_cases c9 : 0 ≤ x7_2
          ·rw [if_pos c9] at H
           have c9b0 := decide_eq_true c9
           clear c9
           by_cases c10 : x7_2 < (l0.length : Int)
           ·rw [if_pos c10] at H
            have c10b0 := decide_eq_true c10
            clear c10
            by_cases c11 : (l0.length : Int) = 0
            ·rw [if_pos c11] at H
             exact absurd H (by simp)
            ·rw [if_neg c11] at H
             have c11b0 : ((l0.length : Int) == 0) = false := beq_eq_false_iff_ne.mpr c11
             have c11b1 : ((l0.length : Int) != 0) = true := bne_iff_ne.mpr c11
             have c11b2 : ¬ (l0 = []) := fun h_ => c11 (by rw [h_]; rfl)
             replace H := Option.bind_eq_some_iff.mp H
             obtain ⟨t106, A120, H⟩ := H
             try dsimp only at H
             have A12 := Aside0.mk A120
             clear A120
             have A12z := Aside0.mk (by have z := A12.out; rw [wrap_quo64 _ c11] at z; exact z)
             clear A12
             have A12 := A12z
             clear A12z
             have H' := Aside0.mk H
             clear H
             have p105 : 0 ≤ (x7_2 : Int) := of_decide_eq_true tA
             have q105 : x7_2 < (l0.length : Int) := of_decide_eq_true tA
             obtain ⟨ad105, e105, hx105_0⟩ := Kd.at_int HR0.out x7_2 p105 q105
             obtain rfl : ad104 = ad105 := (by injection e105)
             replace hx105_0 := (HB.out.cell (World.block_lt_of_cell? w _ hx105_0)).trans hx105_0
             replace p105 := eq_true p105
             replace q105 := eq_true q105
             go_wp2_with (first | (go_at_call 48; (with_reducible refine (earshotref03_C.calls (wrap64 ((wrap64 ((wrap64 ((wrap64 (2 * x5_1)) + 1)) * x7_2)) * ((64 : Int) / (l0.length : Int)))) t106 _ ?side1 A12.out).mono ?_); (case side1 => exact tC (Kd.C_below HRT.out HB.out)); rintro e w' ⟨rfl, ⟨nd, rfl⟩⟩; (try first | exact ⟨rfl, _, World.drewN_drewN _ _ _⟩ | exact ⟨rfl, _, Eq.trans (World.drewN_drewN _ _ _) (congrArg (World.drewN _) (Nat.add_assoc _ _ _))⟩)))
             repeat (go_quiet (first | (go_at_call 48; (with_reducible refine (earshotref03_C.calls (wrap64 ((wrap64 ((wrap64 ((wrap64 (2 * x5_1)) + 1)) * x7_2)) * ((64 : Int) / (l0.length : Int)))) t106 _ ?side1 A12.out).mono ?_); (case side1 => exact tC (Kd.C_below HRT.out HB.out)); rintro e w' ⟨rfl, ⟨nd, rfl⟩⟩; (try first | exact ⟨rfl, _, World.drewN_drewN _ _ _⟩ | exact ⟨rfl, _, Eq.trans (World.drewN_drewN _ _ _) (congrArg (World.drewN _) (Nat.add_assoc _ _ _))⟩))); try go_wp2_with (first | (go_at_call 48; (with_reducible refine (earshotref03_C.calls (wrap64 ((wrap64 ((wrap64 ((wrap64 (2 * x5_1)) + 1)) * x7_2)) * ((64 : Int) / (l0.length : Int)))) t106 _ ?side1 A12.out).mono ?_); (case side1 => exact tC (Kd.C_below HRT.out HB.out)); rintro e w' ⟨rfl, ⟨nd, rfl⟩⟩; (try first | exact ⟨rfl, _, World.drewN_drewN _ _ _⟩ | exact ⟨rfl, _, Eq.trans (World.drewN_drewN _ _ _) (congrArg (World.drewN _) (Nat.add_assoc _ _ _))⟩))))
             go_roundg k2
             case measure => have := HK1.out; have := HK2.out; omega
             case rel => exact ⟨(wrap64 (x6_2 + (wrap64 ((wrap64 (2 * (rd l0 x7_2))) * t106)))), (wrap64 (x7_2 + 1)), (by first | rfl | (simp; done) | (simp only [i64_w]; done) | (simp [*]; done)), (by first | rfl | (simp; done) | (simp only [i64_w]; done) | (simp [*]; done)), H', ⟨by have := HK1.out; have := HK2.out; omega⟩, ⟨tR HO_4.out⟩, ⟨tB⟩⟩
           ·rw [if_neg c10] at H
            exact absurd H (by simp)
          ·rw [if_neg c9] at H
           exact absurd H (by simp)
         ·rw [if_neg c8] at H
          have c8b0 := decide_eq_false c8
          clear c8
          replace H := Option.bind_eq_some_iff.mp H
          obtain ⟨t107, A130, H⟩ := H
          try dsimp only at H
          have A13 := Aside0.mk A130
          clear A130
          by_cases c14 : 0 ≤ x5_1
          ·rw [if_pos c14] at H
           have c14b0 := decide_eq_true c14
           clear c14
           by_cases c15 : x5_1 < (x4_1.length : Int)
           ·rw [if_pos c15] at H
            have c15b0 := decide_eq_true c15
            clear c15
            obtain ⟨y108, hy108⟩ : ∃ y_ : List Int, y_ = (x4_1.set (x5_1 : Int).toNat t107) := ⟨_, rfl⟩
            replace H : (earshotref03_Inverse.l0 k2 l0 (l0.length : Int) y108 (wrap64 (x5_1 + 1))) = some r := by first | (rw [hy108]; with_reducible exact H) | (have H2_ := (Option.bind_some _ _).symm.trans H; rw [hy108]; with_reducible exact H2_) | (have H2_ := (Option.bind_some _ _).symm.trans H; with_reducible exact H2_) | with_reducible exact H | (rw [hy108]; exact H) | exact H
            have Ny108 := Aside0.mk hy108
            clear hy108
            have H' := Aside0.mk H
            clear H
            go_wp2_with (first | (go_at_call 83; (with_reducible refine (earshotref02_Round.calls k2 x6_2 (wrap64 ((l0.length : Int) * 268435456)) t107 _ A13.out).mono ?_); rintro e w' ⟨rfl, ⟨nd, rfl⟩⟩; (try first | exact ⟨rfl, _, World.drewN_drewN _ _ _⟩ | exact ⟨rfl, _, Eq.trans (World.drewN_drewN _ _ _) (congrArg (World.drewN _) (Nat.add_assoc _ _ _))⟩); have p16 : 0 ≤ (x5_1 : Int) := of_decide_eq_true tA; have q16 : (x5_1 : Int) < ((x4_1.length : Int) : Int) := of_decide_eq_true tA; obtain ⟨go16, co16, eo16, gb16, gl16, cl16, HG16⟩ := Kd.R_form HO_4.out (by omega); (first | cases eo16 | (injection eo16 with ea_ en_ ec_; (first | subst ea_ | (injection ea_ with ea_; subst ea_)); subst ec_; clear en_)); have GB16 := Aside0.mk gb16; have GG16 := Aside0.mk HG16; clear gb16 gl16 HG16; obtain ⟨hx16_0, hf16_0⟩ := Kd.R_celln 0 HO_4.out (x5_1 : Int) p16 q16; replace p16 := eq_true p16; replace q16 := eq_true q16; obtain ⟨hy17_, hz17_⟩ := Kd.R_celln 0 HO_4.out (x5_1 : Int) (of_decide_eq_true tA) (of_decide_eq_true tA); have HP17 := Kd.R_putg HO_4.out (x5_1 : Int) t107) | ((with_reducible refine gate_store (t := 3) (p := 49) rfl ?_); (try (rw [drewN_self wr]; generalize hq_ : World.drewN wr _ = wr; (try have hx16_0 := cell_at hq_ hx16_0); (try have hf16_0 := frozen_at hq_ hf16_0); have n0_ := Aside0.mk (Kd.R_at hq_ HO_4.out); have n1_ := Aside0.mk (below_at hq_ HB.out); clear hq_ HO_4 HB; have HO_4 := n0_; have HB := n1_; clear n0_ n1_; (try (obtain ⟨hy17_, hz17_⟩ := Kd.R_celln 0 HO_4.out (x5_1 : Int) (of_decide_eq_true tA) (of_decide_eq_true tA))); (try (have HP17 := Kd.R_putg HO_4.out (x5_1 : Int) t107)))); refine store_event (t := 3) (p := 49) (v := ?vo_w18) (w1 := (wr.setCell ⟨go16, (x5_1 : Int).toNat, none⟩ (.int .i64 t107))) ?hg ?ho ?hn ?hr ?_; (case ho => rfl); (case hg => rfl); (case hn => rfl); (case hr => first | (go_simp; done) | (go_simp; rfl)); intro w18 hw; have hg : wr.grownBy w18 (some go16) := (by rw [hw]; exact HP17.2); have hp_ : Kd.R (Kd.int .i64) 3 w18 w.heap.size (fun _ => True) (.slice (some ⟨go16, 0, none⟩) x4_1.length co16) y108 := (by rw [hw, Ny108.out]; exact HP17.1); clear HP17; have n0_ := Aside0.mk (hp_); have n1_ := Aside0.mk ((by rw [hw]; exact below_set (HB.out) GB16.out : Below w.heap.size w w18)); clear HO_4; clear HB; have HO_4 := n0_; have HB := n1_; clear n0_ n1_; clear hg hw hp_))
            repeat (go_quiet (first | (go_at_call 83; (with_reducible refine (earshotref02_Round.calls k2 x6_2 (wrap64 ((l0.length : Int) * 268435456)) t107 _ A13.out).mono ?_); rintro e w' ⟨rfl, ⟨nd, rfl⟩⟩; (try first | exact ⟨rfl, _, World.drewN_drewN _ _ _⟩ | exact ⟨rfl, _, Eq.trans (World.drewN_drewN _ _ _) (congrArg (World.drewN _) (Nat.add_assoc _ _ _))⟩); have p16 : 0 ≤ (x5_1 : Int) := of_decide_eq_true tA; have q16 : (x5_1 : Int) < ((x4_1.length : Int) : Int) := of_decide_eq_true tA; obtain ⟨go16, co16, eo16, gb16, gl16, cl16, HG16⟩ := Kd.R_form HO_4.out (by omega); (first | cases eo16 | (injection eo16 with ea_ en_ ec_; (first | subst ea_ | (injection ea_ with ea_; subst ea_)); subst ec_; clear en_)); have GB16 := Aside0.mk gb16; have GG16 := Aside0.mk HG16; clear gb16 gl16 HG16; obtain ⟨hx16_0, hf16_0⟩ := Kd.R_celln 0 HO_4.out (x5_1 : Int) p16 q16; replace p16 := eq_true p16; replace q16 := eq_true q16; obtain ⟨hy17_, hz17_⟩ := Kd.R_celln 0 HO_4.out (x5_1 : Int) (of_decide_eq_true tA) (of_decide_eq_true tA); have HP17 := Kd.R_putg HO_4.out (x5_1 : Int) t107) | ((with_reducible refine gate_store (t := 3) (p := 49) rfl ?_); (try (rw [drewN_self wr]; generalize hq_ : World.drewN wr _ = wr; (try have hx16_0 := cell_at hq_ hx16_0); (try have hf16_0 := frozen_at hq_ hf16_0); have n0_ := Aside0.mk (Kd.R_at hq_ HO_4.out); have n1_ := Aside0.mk (below_at hq_ HB.out); clear hq_ HO_4 HB; have HO_4 := n0_; have HB := n1_; clear n0_ n1_; (try (obtain ⟨hy17_, hz17_⟩ := Kd.R_celln 0 HO_4.out (x5_1 : Int) (of_decide_eq_true tA) (of_decide_eq_true tA))); (try (have HP17 := Kd.R_putg HO_4.out (x5_1 : Int) t107)))); refine store_event (t := 3) (p := 49) (v := ?vo_w18) (w1 := (wr.setCell ⟨go16, (x5_1 : Int).toNat, none⟩ (.int .i64 t107))) ?hg ?ho ?hn ?hr ?_; (case ho => rfl); (case hg => rfl); (case hn => rfl); (case hr => first | (go_simp; done) | (go_simp; rfl)); intro w18 hw; have hg : wr.grownBy w18 (some go16) := (by rw [hw]; exact HP17.2); have hp_ : Kd.R (Kd.int .i64) 3 w18 w.heap.size (fun _ => True) (.slice (some ⟨go16, 0, none⟩) x4_1.length co16) y108 := (by rw [hw, Ny108.out]; exact HP17.1); clear HP17; have n0_ := Aside0.mk (hp_); have n1_ := Aside0.mk ((by rw [hw]; exact below_set (HB.out) GB16.out : Below w.heap.size w w18)); clear HO_4; clear HB; have HO_4 := n0_; have HB := n1_; clear n0_ n1_; clear hg hw hp_)); try go_wp2_with (first | (go_at_call 83; (with_reducible refine (earshotref02_Round.calls k2 x6_2 (wrap64 ((l0.length : Int) * 268435456)) t107 _ A13.out).mono ?_); rintro e w' ⟨rfl, ⟨nd, rfl⟩⟩; (try first | exact ⟨rfl, _, World.drewN_drewN _ _ _⟩ | exact ⟨rfl, _, Eq.trans (World.drewN_drewN _ _ _) (congrArg (World.drewN _) (Nat.add_assoc _ _ _))⟩); have p16 : 0 ≤ (x5_1 : Int) := of_decide_eq_true tA; have q16 : (x5_1 : Int) < ((x4_1.length : Int) : Int) := of_decide_eq_true tA; obtain ⟨go16, co16, eo16, gb16, gl16, cl16, HG16⟩ := Kd.R_form HO_4.out (by omega); (first | cases eo16 | (injection eo16 with ea_ en_ ec_; (first | subst ea_ | (injection ea_ with ea_; subst ea_)); subst ec_; clear en_)); have GB16 := Aside0.mk gb16; have GG16 := Aside0.mk HG16; clear gb16 gl16 HG16; obtain ⟨hx16_0, hf16_0⟩ := Kd.R_celln 0 HO_4.out (x5_1 : Int) p16 q16; replace p16 := eq_true p16; replace q16 := eq_true q16; obtain ⟨hy17_, hz17_⟩ := Kd.R_celln 0 HO_4.out (x5_1 : Int) (of_decide_eq_true tA) (of_decide_eq_true tA); have HP17 := Kd.R_putg HO_4.out (x5_1 : Int) t107) | ((with_reducible refine gate_store (t := 3) (p := 49) rfl ?_); (try (rw [drewN_self wr]; generalize hq_ : World.drewN wr _ = wr; (try have hx16_0 := cell_at hq_ hx16_0); (try have hf16_0 := frozen_at hq_ hf16_0); have n0_ := Aside0.mk (Kd.R_at hq_ HO_4.out); have n1_ := Aside0.mk (below_at hq_ HB.out); clear hq_ HO_4 HB; have HO_4 := n0_; have HB := n1_; clear n0_ n1_; (try (obtain ⟨hy17_, hz17_⟩ := Kd.R_celln 0 HO_4.out (x5_1 : Int) (of_decide_eq_true tA) (of_decide_eq_true tA))); (try (have HP17 := Kd.R_putg HO_4.out (x5_1 : Int) t107)))); refine store_event (t := 3) (p := 49) (v := ?vo_w18) (w1 := (wr.setCell ⟨go16, (x5_1 : Int).toNat, none⟩ (.int .i64 t107))) ?hg ?ho ?hn ?hr ?_; (case ho => rfl); (case hg => rfl); (case hn => rfl); (case hr => first | (go_simp; done) | (go_simp; rfl)); intro w18 hw; have hg : wr.grownBy w18 (some go16) := (by rw [hw]; exact HP17.2); have hp_ : Kd.R (Kd.int .i64) 3 w18 w.heap.size (fun _ => True) (.slice (some ⟨go16, 0, none⟩) x4_1.length co16) y108 := (by rw [hw, Ny108.out]; exact HP17.1); clear HP17; have n0_ := Aside0.mk (hp_); have n1_ := Aside0.mk ((by rw [hw]; exact below_set (HB.out) GB16.out : Below w.heap.size w w18)); clear HO_4; clear HB; have HO_4 := n0_; have HB := n1_; clear n0_ n1_; clear hg hw hp_)))
            go_roundg k2
            case measure => have := HK1.out; have := HK2.out; omega
            case rel => exact ⟨(y108), (wrap64 (x5_1 + 1)), (by first | rfl | (simp; done) | (simp only [i64_w]; done) | (simp [*]; done)), H', ⟨by have := HK1.out; have := HK2.out; omega⟩, ⟨tR HO_4.out⟩, ⟨tB⟩⟩
           ·rw [if_neg c15] at H
            exact absurd H (by simp)
          ·rw [if_neg c14] at H
           exact absurd H (by simp)
      ·rw [if_neg c7] at H
       exact absurd H (by simp)
     ·rw [if_neg c6] at H
      have c6b0 := decide_eq_false c6
      clear c6
      obtain rfl := Option.some.inj H
      go_wp2
      repeat (go_quiet (fail); try go_wp2)
      go_ret
      exact ⟨_, by first | rfl | (simp [errW_none, errW_some] <;> rfl) | (simp [*, errW_none, errW_some] <;> rfl), tR HO_4.out, tB⟩
  ·rw [if_neg c3] at H
   exact absurd H (by simp)
 ·rw [if_neg c2] at H
  exact absurd H (by simp)

end Go.Proofs.YtdlbmbijobcljaaDoor.X

namespace Go.Proofs.YtdlbmbijobcljaaDoor.Pure
open Go.RowKit Go.Proofs.YtdlbmbijobcljaaDoor.X Go.Proofs.YtdlbmbijobcljaaDoorW.PrintWords Go.Proofs.YtdlbmbijobcljaaDoorW.PrintLast
set_option linter.unusedVariables false
set_option linter.unusedSimpArgs false
set_option linter.unusedSectionVars false
/-- The sum of row i of the inverse transform, its first m + 1 terms; q = 64/n. -/
def invSum (l : List Int) (q : Int) (i : Nat) : Nat → Int
  | 0 => 16384 * rd l 0
  | m + 1 => invSum l q i m + 2 * rd l ((m + 1 : Nat) : Int) * cosv ((2 * (i : Int) + 1) * ((m + 1 : Nat) : Int) * q)
theorem mul_bound (a b A B : Int) (ha0 : -A ≤ a) (ha1 : a ≤ A) (hb0 : -B ≤ b) (hb1 : b ≤ B) : -(A * B) ≤ a * b ∧ a * b ≤ A * B := by
  have hA : 0 ≤ A := by omega
  have hB : 0 ≤ B := by omega
  have h1 : 0 ≤ (A - a) * (B - b) := Int.mul_nonneg (by omega) (by omega)
  have h2 : 0 ≤ (A + a) * (B + b) := Int.mul_nonneg (by omega) (by omega)
  have h3 : 0 ≤ (A - a) * (B + b) := Int.mul_nonneg (by omega) (by omega)
  have h4 : 0 ≤ (A + a) * (B - b) := Int.mul_nonneg (by omega) (by omega)
  simp only [Int.sub_mul, Int.add_mul, Int.mul_sub, Int.mul_add] at h1 h2 h3 h4
  omega
theorem rd_bound (l : List Int) (B : Int) (hB : 0 ≤ B) (h : ∀ x ∈ l, -B ≤ x ∧ x ≤ B) (i : Int) : -B ≤ rd l i ∧ rd l i ≤ B := by
  unfold rd
  rw [List.getD_eq_getElem?_getD]
  rcases Nat.lt_or_ge i.toNat l.length with hl | hl
  · rw [List.getElem?_eq_getElem hl]; exact h _ (List.getElem_mem hl)
  · rw [List.getElem?_eq_none hl]; simp; omega
theorem invSum_bound (l : List Int) (h : ∀ x ∈ l, -1099511627776 ≤ x ∧ x ≤ 1099511627776) (q : Int) (i m : Nat) : -(18014398509481984 + 36028797018963968 * (m : Int)) ≤ invSum l q i m ∧ invSum l q i m ≤ 18014398509481984 + 36028797018963968 * (m : Int) := by
  induction m with
  | zero =>
    have := rd_bound l 1099511627776 (by omega) h 0
    simp only [invSum]
    omega
  | succ m ih =>
    have h1 := rd_bound l 1099511627776 (by omega) h ((m + 1 : Nat) : Int)
    have h2 := cosv_range ((2 * (i : Int) + 1) * ((m + 1 : Nat) : Int) * q)
    have h3 := mul_bound (2 * rd l ((m + 1 : Nat) : Int)) (cosv ((2 * (i : Int) + 1) * ((m + 1 : Nat) : Int) * q)) 2199023255552 16384 (by omega) (by omega) h2.1 h2.2
    simp only [invSum]
    omega
/-- The index of the cosine, as the program and as the document have it. -/
theorem inv_index (n i m : Nat) (q : Int) (hn : 0 < n) (hq : (n : Int) * q = 64) (hn64 : n ≤ 64) (hi : i < n) (hm : m < n) :
    (if (n : Int) = 0 then (none : Option Int) else feature_cosine.f (wrap64 (Int.tdiv (wrap64 ((wrap64 ((wrap64 ((wrap64 (2 * (i : Int))) + 1)) * (m : Int))) * 64)) (n : Int)))) = some (cosv ((2 * (i : Int) + 1) * (m : Int) * q)) := by
  have h0 : 0 ≤ (2 * (i : Int) + 1) * (m : Int) := Int.mul_nonneg (by omega) (by omega)
  have h1 : (2 * (i : Int) + 1) * (m : Int) ≤ 129 * 64 := by
    have := mul_bound (2 * (i : Int) + 1) (m : Int) 129 64 (by omega) (by omega) (by omega) (by omega)
    omega
  have hq0 : 0 < q := by
    by_cases hq1 : 0 < q
    · exact hq1
    · have : (n : Int) * q ≤ (n : Int) * 0 := Int.mul_le_mul_of_nonneg_left (by omega) (by omega)
      omega
  have hq64 : q ≤ 64 := by
    have : 1 * q ≤ (n : Int) * q := Int.mul_le_mul_of_nonneg_right (by omega) (by omega)
    omega
  have h2 := mul_bound ((2 * (i : Int) + 1) * (m : Int)) q (129 * 64) 64 (by omega) (by omega) (by omega) (by omega)
  have h3 : 0 ≤ (2 * (i : Int) + 1) * (m : Int) * q := Int.mul_nonneg h0 (by omega)
  rw [if_neg (by omega), w64 (n := 2 * (i : Int)) (by omega) (by omega), w64 (n := 2 * (i : Int) + 1) (by omega) (by omega), w64 (n := (2 * (i : Int) + 1) * (m : Int)) (by omega) (by omega), w64 (n := (2 * (i : Int) + 1) * (m : Int) * 64) (by omega) (by omega)]
  have e : (2 * (i : Int) + 1) * (m : Int) * 64 = (n : Int) * ((2 * (i : Int) + 1) * (m : Int) * q) := by
    rw [← hq, Int.mul_left_comm]
  rw [e, Int.mul_tdiv_cancel_left _ (by omega : (n : Int) ≠ 0), w64 (by omega) (by omega)]
  unfold feature_cosine.f
  rw [if_pos h3]
theorem inv_index' (n i m : Nat) (q : Int) (hn : 0 < n) (hq0 : 0 < q) (hq64 : q ≤ 64) (hn64 : n ≤ 64) (hi : i < n) (hm : m < n) :
    earshotref03_C.f (wrap64 ((wrap64 ((wrap64 ((wrap64 (2 * (i : Int))) + 1)) * (m : Int))) * (wrap64 q))) = some (cosv ((2 * (i : Int) + 1) * (m : Int) * q)) := by
  have h0 : 0 ≤ (2 * (i : Int) + 1) * (m : Int) := Int.mul_nonneg (by omega) (by omega)
  have h1 := mul_bound (2 * (i : Int) + 1) (m : Int) 129 64 (by omega) (by omega) (by omega) (by omega)
  have h2 := mul_bound ((2 * (i : Int) + 1) * (m : Int)) q (129 * 64) 64 (by omega) (by omega) (by omega) (by omega)
  have h3 : 0 ≤ (2 * (i : Int) + 1) * (m : Int) * q := Int.mul_nonneg h0 (by omega)
  rw [w64 (n := 2 * (i : Int)) (by omega) (by omega), w64 (n := 2 * (i : Int) + 1) (by omega) (by omega), w64 (n := (2 * (i : Int) + 1) * (m : Int)) (by omega) (by omega), w64 (n := q) (by omega) (by omega), w64 (by omega) (by omega)]
  unfold earshotref03_C.f
  rw [if_pos h3]
/-- The inverse transform. -/
def invAt (l : List Int) (n : Nat) (i : Nat) : Int := rnd (invSum l ((64 : Int) / n) i (n - 1)) ((n : Int) * 268435456)
def invList (l : List Int) (n : Nat) (i : Nat) : List Int := (List.range i).map (invAt l n) ++ List.replicate (n - i) 0
theorem invList_length (l : List Int) (n i : Nat) (h : i ≤ n) : (invList l n i).length = n := by simp [invList]; omega
theorem invList_set (l : List Int) (n i : Nat) (h : i < n) : (invList l n i).set i (invAt l n i) = invList l n (i + 1) := by
  unfold invList
  rw [List.range_succ, List.map_append, List.set_append_right _ _ (by simp)]
  simp only [List.length_map, List.length_range, Nat.sub_self, List.map_cons, List.map_nil, List.append_assoc]
  congr 1
  rw [show n - i = (n - (i + 1)) + 1 by omega, List.replicate_succ]
  rfl
section
variable (l : List Int) (n : Nat) (hn : isLen n = true) (hl : l.length = n) (h : ∀ x ∈ l, -1099511627776 ≤ x ∧ x ≤ 1099511627776)
include hn hl h
theorem inv_last (i : Nat) (hi : i < n) (y : List Int) (hy : y.length = n) (R : List Int × Int) (hR : Ev (fun k => feature_Inverse.l0 k l (n : Int) (y.set i (invAt l n i)) (n : Int) ((i + 1 : Nat) : Int)) R) :
    Ev (fun k => (feature_far.f k (invSum l ((64 : Int) / n) i (n - 1)) (wrap64 ((n : Int) * 268435456))).bind fun t109 => (if 0 ≤ (i : Int) then (if (i : Int) < (y.length : Int) then (feature_Inverse.l0 k l (n : Int) (y.set (i : Int).toNat t109) (n : Int) (wrap64 ((i : Int) + 1))) else (none)) else (none))) R := by
  obtain ⟨n0, n1, _⟩ := isLen_dvd n hn
  have hb := invSum_bound l h ((64 : Int) / n) i (n - 1)
  rw [w64 (by omega) (by omega)]
  refine Ev.bind (far_ev _ _ (by omega) (by omega) (by omega) (by omega)) ?_
  refine Ev.congr (fun k => ?_) hR
  rw [if_pos (by omega), if_pos (by omega), w64 (by omega) (by omega), Int.toNat_natCast]
  rfl
theorem inv_row (i : Nat) (hi : i < n) (y : List Int) (hy : y.length = n) (R : List Int × Int) (hR : Ev (fun k => feature_Inverse.l0 k l (n : Int) (y.set i (invAt l n i)) (n : Int) ((i + 1 : Nat) : Int)) R) :
    ∀ r m : Nat, m + r + 1 = n → Ev (fun k => feature_Inverse.l1 k l (n : Int) y (i : Int) (invSum l ((64 : Int) / n) i m) ((m + 1 : Nat) : Int) (n : Int) (i : Int)) R := by
  obtain ⟨n0, n1, n2, n3, n4⟩ := isLen_dvd n hn
  intro r
  induction r with
  | zero =>
    intro m hm
    have := inv_last l n hn hl h i hi y hy R hR
    rw [show n - 1 = m by omega] at this
    refine Ev.step (fun k => ?_) this
    simp only [feature_Inverse.l1]
    rw [if_neg (by omega)]
  | succ r ih =>
    intro m hm
    have := ih (m + 1) (by omega)
    refine Ev.step (fun k => ?_) this
    simp only [feature_Inverse.l1]
    rw [if_pos (by omega), if_pos (by omega), if_pos (by omega)]
    have hx := inv_index n i (m + 1) ((64 : Int) / n) n0 n2 n1 hi (by omega)
    rw [if_neg (by omega)] at hx
    rw [if_neg (by omega), hx, Option.bind_some]
    have hb := invSum_bound l h ((64 : Int) / n) i (m + 1)
    have h1 := rd_bound l 1099511627776 (by omega) h ((m + 1 : Nat) : Int)
    have h2 := cosv_range ((2 * (i : Int) + 1) * ((m + 1 : Nat) : Int) * ((64 : Int) / n))
    have h3 := mul_bound (2 * rd l ((m + 1 : Nat) : Int)) (cosv ((2 * (i : Int) + 1) * ((m + 1 : Nat) : Int) * ((64 : Int) / n))) 2199023255552 16384 (by omega) (by omega) h2.1 h2.2
    rw [w64 (n := 2 * rd l ((m + 1 : Nat) : Int)) (by omega) (by omega), w64 (n := 2 * rd l ((m + 1 : Nat) : Int) * _) (by omega) (by omega)]
    have e : invSum l ((64 : Int) / n) i m + 2 * rd l ((m + 1 : Nat) : Int) * cosv ((2 * (i : Int) + 1) * ((m + 1 : Nat) : Int) * ((64 : Int) / n)) = invSum l ((64 : Int) / n) i (m + 1) := rfl
    rw [e, w64 (by omega) (by omega), w64 (by omega) (by omega), show ((m + 1 : Nat) : Int) + 1 = ((m + 1 + 1 : Nat) : Int) by omega]
theorem inv_loop : ∀ r i : Nat, i + r = n → Ev (fun k => feature_Inverse.l0 k l (n : Int) (invList l n i) (n : Int) (i : Int)) (invList l n n, 0) := by
  obtain ⟨n0, n1, n2, n3, n4⟩ := isLen_dvd n hn
  intro r
  induction r with
  | zero =>
    intro i hi
    refine Ev.step (f := fun _ => some (invList l n n, 0)) (fun k => ?_) (Ev.now _)
    simp only [feature_Inverse.l0]
    rw [if_neg (by omega), show i = n by omega]
  | succ r ih =>
    intro i hi
    have h1 := ih (i + 1) (by omega)
    rw [← invList_set l n i (by omega)] at h1
    have h2 := inv_row l n hn hl h i (by omega) (invList l n i) (invList_length l n i (by omega)) _ h1 (n - 1) 0 (by omega)
    have hb := rd_bound l 1099511627776 (by omega) h 0
    refine Ev.step (fun k => ?_) h2
    simp only [feature_Inverse.l0]
    rw [if_pos (by omega), if_pos (by omega), w64 (n := 16384 * rd l 0) (by omega) (by omega)]
    rfl
theorem inv_last' (i : Nat) (hi : i < n) (y : List Int) (hy : y.length = n) (R : List Int) (hR : Ev (fun k => earshotref03_Inverse.l0 k l (n : Int) (y.set i (invAt l n i)) ((i + 1 : Nat) : Int)) R) :
    Ev (fun k => (earshotref02_Round.f k (invSum l ((64 : Int) / n) i (n - 1)) (wrap64 ((n : Int) * 268435456))).bind fun t107 => (if 0 ≤ (i : Int) then (if (i : Int) < (y.length : Int) then (earshotref03_Inverse.l0 k l (n : Int) (y.set (i : Int).toNat t107) (wrap64 ((i : Int) + 1))) else (none)) else (none))) R := by
  obtain ⟨n0, n1, _⟩ := isLen_dvd n hn
  have hb := invSum_bound l h ((64 : Int) / n) i (n - 1)
  rw [w64 (by omega) (by omega)]
  refine Ev.bind (round_ev _ _ (by omega) (by omega) (by omega) (by omega) (by omega) (by omega)) ?_
  refine Ev.congr (fun k => ?_) hR
  rw [if_pos (by omega), if_pos (by omega), w64 (by omega) (by omega), Int.toNat_natCast]
  rfl
theorem inv_row' (i : Nat) (hi : i < n) (y : List Int) (hy : y.length = n) (R : List Int) (hR : Ev (fun k => earshotref03_Inverse.l0 k l (n : Int) (y.set i (invAt l n i)) ((i + 1 : Nat) : Int)) R) :
    ∀ r m : Nat, m + r + 1 = n → Ev (fun k => earshotref03_Inverse.l1 k l (n : Int) y (i : Int) (invSum l ((64 : Int) / n) i m) ((m + 1 : Nat) : Int)) R := by
  obtain ⟨n0, n1, n2, n3, n4⟩ := isLen_dvd n hn
  intro r
  induction r with
  | zero =>
    intro m hm
    have := inv_last' l n hn hl h i hi y hy R hR
    rw [show n - 1 = m by omega] at this
    refine Ev.step (fun k => ?_) this
    simp only [earshotref03_Inverse.l1]
    rw [if_neg (by omega)]
  | succ r ih =>
    intro m hm
    have := ih (m + 1) (by omega)
    refine Ev.step (fun k => ?_) this
    simp only [earshotref03_Inverse.l1]
    rw [if_pos (by omega), if_pos (by omega), if_pos (by omega)]
    have hx := inv_index' n i (m + 1) ((64 : Int) / n) n0 (by omega) n4 n1 hi (by omega)
    rw [if_neg (by omega), hx, Option.bind_some]
    have hb := invSum_bound l h ((64 : Int) / n) i (m + 1)
    have h1 := rd_bound l 1099511627776 (by omega) h ((m + 1 : Nat) : Int)
    have h2 := cosv_range ((2 * (i : Int) + 1) * ((m + 1 : Nat) : Int) * ((64 : Int) / n))
    have h3 := mul_bound (2 * rd l ((m + 1 : Nat) : Int)) (cosv ((2 * (i : Int) + 1) * ((m + 1 : Nat) : Int) * ((64 : Int) / n))) 2199023255552 16384 (by omega) (by omega) h2.1 h2.2
    rw [w64 (n := 2 * rd l ((m + 1 : Nat) : Int)) (by omega) (by omega), w64 (n := 2 * rd l ((m + 1 : Nat) : Int) * _) (by omega) (by omega)]
    have e : invSum l ((64 : Int) / n) i m + 2 * rd l ((m + 1 : Nat) : Int) * cosv ((2 * (i : Int) + 1) * ((m + 1 : Nat) : Int) * ((64 : Int) / n)) = invSum l ((64 : Int) / n) i (m + 1) := rfl
    rw [e, w64 (by omega) (by omega), w64 (by omega) (by omega), show ((m + 1 : Nat) : Int) + 1 = ((m + 1 + 1 : Nat) : Int) by omega]
theorem inv_loop' : ∀ r i : Nat, i + r = n → Ev (fun k => earshotref03_Inverse.l0 k l (n : Int) (invList l n i) (i : Int)) (invList l n n) := by
  obtain ⟨n0, n1, n2, n3, n4⟩ := isLen_dvd n hn
  intro r
  induction r with
  | zero =>
    intro i hi
    refine Ev.step (f := fun _ => some (invList l n n)) (fun k => ?_) (Ev.now _)
    simp only [earshotref03_Inverse.l0]
    rw [if_neg (by omega), show i = n by omega]
  | succ r ih =>
    intro i hi
    have h1 := ih (i + 1) (by omega)
    rw [← invList_set l n i (by omega)] at h1
    have h2 := inv_row' l n hn hl h i (by omega) (invList l n i) (invList_length l n i (by omega)) _ h1 (n - 1) 0 (by omega)
    have hb := rd_bound l 1099511627776 (by omega) h 0
    refine Ev.step (fun k => ?_) h2
    simp only [earshotref03_Inverse.l0]
    rw [if_pos (by omega), if_pos (by omega), w64 (n := 16384 * rd l 0) (by omega) (by omega)]
    rfl
theorem ref_inverse_ev : Ev (fun k => earshotref03_Inverse.f k l) (invList l n n) := by
  obtain ⟨n0, n1, n2, n3, n4⟩ := isLen_dvd n hn
  refine Ev.congr (fun k => ?_) (inv_loop' l n hn hl h n 0 (by omega))
  unfold earshotref03_Inverse.f
  rw [if_pos (by omega), if_pos (by omega), hl, Int.toNat_natCast]
  rfl
theorem inverse_ok : Ev (fun k => feature_Inverse.f k l) (invList l n n, 0) := by
  obtain ⟨n0, n1, n2, n3, n4⟩ := isLen_dvd n hn
  have hin : allIn l (-1099511627776) 1099511627776 = true := by
    unfold allIn
    rw [List.all_eq_true]
    intro x hx
    have := h x hx
    simp; omega
  have h1 := inv_loop l n hn hl h n 0 (by omega)
  have h2 : Ev (fun k => feature_Inverse.j0 k l (n : Int) false) (invList l n n, 0) := by
    refine Ev.step (fun k => ?_) h1
    simp only [feature_Inverse.j0]
    rw [if_neg (by simp), if_pos (by omega), if_pos (by omega), Option.bind_some, List.length_replicate, Int.toNat_natCast]
    rfl
  refine Ev.congr (fun k => ?_) h2
  unfold feature_Inverse.f
  rw [hl, possible_at, hn, Option.bind_some, if_pos rfl, within_at _ _ (by omega) (by omega), hin, Option.bind_some]
  rfl
end
theorem inverse_bad (l : List Int) (h : isLen l.length = false ∨ allIn l (-1099511627776) 1099511627776 = false) : Ev (fun k => feature_Inverse.f k l) ([], 2) := by
  have h2 : ∀ n, Ev (fun k => feature_Inverse.j0 k l n true) ([], 2) := fun n => Ev.step (f := fun _ => some ([], 2)) (fun k => by simp only [feature_Inverse.j0]; rw [if_pos trivial]) (Ev.now _)
  refine Ev.congr (fun k => ?_) (h2 (l.length : Int))
  unfold feature_Inverse.f
  rw [possible_at, Option.bind_some]
  cases hp : isLen l.length with
  | false => rw [if_neg (by simp)]
  | true =>
    rcases h with h | h
    · rw [hp] at h; cases h
    · rw [if_pos rfl, within_at _ _ (by omega) (by omega), h, Option.bind_some]
      rfl
theorem allIn_iff (l : List Int) (a b : Int) : allIn l a b = true ↔ ∀ x ∈ l, a ≤ x ∧ x ≤ b := by
  unfold allIn
  rw [List.all_eq_true]
  exact ⟨fun h x hx => by have := h x hx; simp at this; exact this, fun h x hx => by have := h x hx; simp; exact this⟩
end Go.Proofs.YtdlbmbijobcljaaDoor.Pure

namespace Go.Proofs.YtdlbmbijobcljaaDoor.X
open Go.RowKit Go.Proofs.YtdlbmbijobcljaaDoorW.PrintWords Go.Proofs.YtdlbmbijobcljaaDoorW.PrintLast Go.Proofs.YtdlbmbijobcljaaDoorW.PrintMore
attribute [local go_sem] max2_int min2_int max_two min_two max_three min_three max_four min_four   -- for this text's walks alone
set_option linter.unusedVariables false
set_option linter.unusedSimpArgs false
/-! ### earshotref03_Transform: function 53 -/
mutual
def earshotref03_Transform.l0 : Nat → List Int → Int → List Int → Int → Option (List Int)
 | 0, _, _, _, _ => none
 | k + 1, x0, x3, x4, x5 => if x5 < x3 then (earshotref03_Transform.l1 k x0 x3 x4 x5 0) else (some x4)
def earshotref03_Transform.l1 : Nat → List Int → Int → List Int → Int → Int → Option (List Int)
 | 0, _, _, _, _, _ => none
 | k + 1, x0, x3, x4, x5, x6 => if x6 < x3 then (if 0 ≤ x5 then (if x5 < (x4.length : Int) then (if 0 ≤ x6 then (if x6 < (x0.length : Int) then (if x3 = 0 then (none) else ((earshotref03_C.f (wrap64 ((wrap64 ((wrap64 ((wrap64 (2 * x6)) + 1)) * x5)) * (wrap64 ((64 : Int) / x3))))).bind fun t106 => (earshotref03_Transform.l1 k x0 x3 (x4.set (x5 : Int).toNat (wrap64 ((rd x4 x5) + (wrap64 ((rd x0 x6) * t106))))) x5 (wrap64 (x6 + 1))))) else (none)) else (none)) else (none)) else (none)) else (earshotref03_Transform.l0 k x0 x3 x4 (wrap64 (x5 + 1)))
end
def earshotref03_Transform.f (k : Nat) (l0 : List Int) : Option (List Int) := if 0 ≤ (l0.length : Int) then (if ((l0.length : Int) : Int).toNat ≤ 35184372088832 then (earshotref03_Transform.l0 k l0 (l0.length : Int) (List.replicate ((l0.length : Int) : Int).toNat 0) 0) else (none)) else (none)
theorem earshotref03_Transform.mono_l : ∀ k, (∀ y0 y1 y2 y3, LeO (earshotref03_Transform.l0 k y0 y1 y2 y3) (earshotref03_Transform.l0 (k + 1) y0 y1 y2 y3)) ∧ (∀ y0 y1 y2 y3 y4, LeO (earshotref03_Transform.l1 k y0 y1 y2 y3 y4) (earshotref03_Transform.l1 (k + 1) y0 y1 y2 y3 y4))
 | 0 => ⟨fun _ _ _ _ r h => by simp [earshotref03_Transform.l0] at h, fun _ _ _ _ _ r h => by simp [earshotref03_Transform.l1] at h⟩
 | k + 1 => by
  obtain ⟨ih0, ih1⟩ := earshotref03_Transform.mono_l k
  refine ⟨?_, ?_⟩
  ·intro y0 y1 y2 y3
   unfold earshotref03_Transform.l0
   repeat' first
   | (with_reducible exact ih0 _ _ _ _)
   | (with_reducible exact ih1 _ _ _ _ _)
   | (with_reducible exact LeO.refl _)
   | (with_reducible exact LeO.none _)
   | (with_reducible refine LeO.ite ?_ ?_)
   | (with_reducible refine LeO.bind ?_ (fun _ => ?_))
   | exact ih0 _ _ _ _
   | exact ih1 _ _ _ _ _
   | exact LeO.none _
   | refine LeO.ite ?_ ?_
   | refine LeO.bind ?_ (fun _ => ?_)
  ·intro y0 y1 y2 y3 y4
   unfold earshotref03_Transform.l1
   repeat' first
   | (with_reducible exact ih0 _ _ _ _)
   | (with_reducible exact ih1 _ _ _ _ _)
   | (with_reducible exact LeO.refl _)
   | (with_reducible exact LeO.none _)
   | (with_reducible refine LeO.ite ?_ ?_)
   | (with_reducible refine LeO.bind ?_ (fun _ => ?_))
   | exact ih0 _ _ _ _
   | exact ih1 _ _ _ _ _
   | exact LeO.none _
   | refine LeO.ite ?_ ?_
   | refine LeO.bind ?_ (fun _ => ?_)
theorem earshotref03_Transform.mono : ∀ a0 k, LeO (earshotref03_Transform.f k a0) (earshotref03_Transform.f (k + 1) a0) := by
 intro a0 k
 obtain ⟨ih0, ih1⟩ := earshotref03_Transform.mono_l k
 unfold earshotref03_Transform.f
 repeat' first
   | (with_reducible exact ih0 _ _ _ _)
   | (with_reducible exact ih1 _ _ _ _ _)
   | (with_reducible exact LeO.refl _)
   | (with_reducible exact LeO.none _)
   | (with_reducible refine LeO.ite ?_ ?_)
   | (with_reducible refine LeO.bind ?_ (fun _ => ?_))
   | exact ih0 _ _ _ _
   | exact ih1 _ _ _ _ _
   | exact LeO.none _
   | refine LeO.ite ?_ ?_
   | refine LeO.bind ?_ (fun _ => ?_)
def earshotref03_Transform.T9 : Bool × List (List Nat × List Nat) := (true, [([], []), ([], []), ([], []), ([], []), ([2, 3], [2, 3]), ([4], [4]), ([], []), ([], []), ([6, 7], [6, 7]), ([8], [8]), ([], []), ([10], [10]), ([11], [11]), ([], []), ([12, 13], [12, 13]), ([], []), ([15], [15]), ([14, 16], [14, 16]), ([17], [17]), ([9, 18], [9, 18]), ([5, 19], [5, 19]), ([0, 1, 0, 1, 2, 3, 4, 5, 6, 7, 8, 9, 10, 11, 12, 13, 14, 15, 16, 17, 18, 19, 20], [0, 1]), ([21, 20, 18, 0, 1, 2, 3, 4, 5, 6, 7, 8, 9, 10, 11, 12, 13, 14, 15, 16, 17, 18, 19, 20], [20, 21])])
def earshotref03_Transform.B9 : List Nat := [0, 0, 0, 0, 12, 28, 0, 0, 192, 448, 0, 1024, 3072, 0, 15360, 0, 32768, 130048, 261120, 524224, 1048572, 2097151, 4194303]
theorem earshotref03_Transform.tab9 : rtab .any (opsOf Tryd.f53 9) = earshotref03_Transform.T9 := by kernel_rfl
theorem earshotref03_Transform.bits9 : waitsOk earshotref03_Transform.T9.2 earshotref03_Transform.B9 = true := by kernel_rfl
set_option maxHeartbeats 8000000 in
set_option maxRecDepth 100000 in
theorem earshotref03_Transform.calls (k : Nat) (A0 : Option Addr) (c0 : Nat) (l0 : List Int) (r : List Int) (w : World) (ht : Kd.C (Kd.int .i64) w (some ⟨0, 0, none⟩) 65 tabL) (hr0 : Kd.C (Kd.int .i64) w A0 l0.length l0) (hc0 : l0.length ≤ c0) (h : earshotref03_Transform.f k l0 = some r) :
  Calls Tryd.prog 53 #[.slice A0 l0.length c0] w fun e w' => ∃ v0_ : Value, e = .returned (v0_) ∧ Kd.R (Kd.int .i64) 3 w' w.heap.size (fun _ => True) v0_ r ∧ Below w.heap.size w w' := by
 have HRT := Aside0.mk ht
 clear ht
 have HR0 := Aside0.mk hr0
 have HC0 := Aside0.mk hc0
 clear hr0 hc0
 have HB := Aside0.mk (Below.refl w.heap.size w)
 have H : (if 0 ≤ (l0.length : Int) then (if ((l0.length : Int) : Int).toNat ≤ 35184372088832 then (earshotref03_Transform.l0 k l0 (l0.length : Int) (List.replicate ((l0.length : Int) : Int).toNat 0) 0) else (none)) else (none)) = some r := h
 clear h
 by_cases c2 : 0 ≤ (l0.length : Int)
 ·rw [if_pos c2] at H
  have c2b0 := eq_true c2
  have c2b1 := decide_eq_true c2
  clear c2
  by_cases c3 : ((l0.length : Int) : Int).toNat ≤ 35184372088832
  ·rw [if_pos c3] at H
   have c3b0 := eq_true c3
   have c3b1 := decide_eq_true c3
   clear c3
   obtain ⟨y101, hy101⟩ : ∃ y_ : List Int, y_ = (List.replicate ((l0.length : Int) : Int).toNat 0) := ⟨_, rfl⟩
   replace H : (earshotref03_Transform.l0 k l0 (l0.length : Int) y101 0) = some r := by first | (rw [hy101]; with_reducible exact H) | (have H2_ := (Option.bind_some _ _).symm.trans H; rw [hy101]; with_reducible exact H2_) | (have H2_ := (Option.bind_some _ _).symm.trans H; with_reducible exact H2_) | with_reducible exact H | (rw [hy101]; exact H) | exact H
   have Ny101 := Aside0.mk hy101
   clear hy101
   have H' := Aside0.mk H
   clear H
   go_enter Tryd.func53, Tryd.ntmps53
   go_wp2_with (first | ((with_reducible refine gate_dst (N := 10) rfl ?_); refine Kd.R_make (Kd.int .i64) _ 3 rfl (N := 10) rfl 22 _ _ rfl (l0.length : Int) rfl rfl Tryd.underlying22 (.int .i64 0) 8 info3 rfl (by decide) (by omega) 0 (ok := fun _ => True) (okp := fun _ => True) rfl (fun _ hk => hk) trivial (of_decide_eq_true tA) (Nat.le_trans (Nat.mul_le_mul_right _ (of_decide_eq_true tA : (l0.length : Int).toNat ≤ 35184372088832)) (by omega)) (Below.refl _ _) (Nat.le_refl _) ?_; intro v102 w4 ho5 hb hg_ hnew_; clear hg_ hnew_; (first | rw [← Ny101.out] at ho5 | (simp only [Int.reduceToNat] at ho5; rw [← Ny101.out] at ho5)); have n0_ := Aside0.mk (Kd.R_lower ho5 (below_size tB)); have n1_ := Aside0.mk (below_step tB hb); clear HB; have HO103 := n0_; have HB := n1_; clear n0_ n1_; clear hb ho5))
   go_loopg [5] k (fun kq v5 w' => ∃ (x4_1 : List Int) (x5_1 : Int), v5 = .int .i64 x5_1 ∧ Aside0 (earshotref03_Transform.l0 kq l0 (l0.length : Int) x4_1 x5_1 = some r) ∧ Aside0 (kq ≤ k) ∧ Aside0 (Kd.R (Kd.int .i64) 3 w' w.heap.size (fun _ => True) v102 x4_1) ∧ Aside0 (Below w.heap.size w w'))
   case atStart => exact ⟨(y101), (0), (by first | rfl | (simp; done) | (simp only [i64_w]; done) | (simp [*]; done)), H', ⟨Nat.le_refl _⟩, ⟨tR HO103.out⟩, ⟨tB⟩⟩
   case round =>
    clear H'
    try clear c2
    try clear c2b0
    try clear c2b1
    try clear p2
    try clear c3
    try clear c3b0
    try clear c3b1
    try clear c5
    obtain ⟨x4_1, x5_1, rfl, HA, HK1, HO_4, HB⟩ := hrel
    cases gk with
    | zero => exact absurd HA.out (by simp [earshotref03_Transform.l0])
    | succ k1 =>
     have H := HA.out
     clear HA
     simp only [earshotref03_Transform.l0] at H
     by_cases c6 : x5_1 < (l0.length : Int)
     ·rw [if_pos c6] at H
      have c6b0 := decide_eq_true c6
      clear c6
      have H' := Aside0.mk H
      clear H
      go_wp2
      go_loopg [6] k1 (fun kq v6 w' => ∃ (x4_2 : List Int) (x6_2 : Int), v6 = .int .i64 x6_2 ∧ Aside0 (earshotref03_Transform.l1 kq l0 (l0.length : Int) x4_2 x5_1 x6_2 = some r) ∧ Aside0 (kq ≤ k1) ∧ Aside0 (Kd.R (Kd.int .i64) 3 w' w.heap.size (fun _ => True) v102 x4_2) ∧ Aside0 (Below w.heap.size w w'))
      case atStart => exact ⟨(x4_1), (0), (by first | rfl | (simp; done) | (simp only [i64_w]; done) | (simp [*]; done)), H', ⟨Nat.le_refl _⟩, ⟨tR HO_4.out⟩, ⟨tB⟩⟩
      case round =>
       clear H'
       try clear c2
       try clear c2b0
       try clear c2b1
       try clear p2
       try clear c3
       try clear c3b0
       try clear c3b1
       try clear c5
       try clear c6
       try clear c6b0
       try clear p2
       obtain ⟨x4_2, x6_2, rfl, HA, HK2, HO_4, HB⟩ := hrel
       cases gk with
       | zero => exact absurd HA.out (by simp [earshotref03_Transform.l1])
       | succ k2 =>
        have H := HA.out
        clear HA
        simp only [earshotref03_Transform.l1] at H
        by_cases c7 : x6_2 < (l0.length : Int)
        ·rw [if_pos c7] at H
         have c7b0 := decide_eq_true c7
         clear c7
         by_cases c8 : 0 ≤ x5_1
         ·rw [if_pos c8] at H
          have c8b0 := decide_eq_true c8
          clear c8
          by_cases c9 : x5_1 < (x4_2.length : Int)
          ·rw [if_pos c9] at H
           have c9b0 := decide_eq_true c9
           clear c9
           by_cases c10 : 0 ≤ x6_2
           ·rw [if_pos c10] at H
            have c10b0 := decide_eq_true c10
            clear c10
            by_cases c11 : x6_2 < (l0.length : Int)
            ·rw [if_pos c11] at H
             have c11b0 := decide_eq_true c11
             clear c11
             by_cases c12 : (l0.length : Int) = 0
             ·rw [if_pos c12] at H
              exact absurd H (by simp)
             ·rw [if_neg c12] at H
              have c12b0 : ((l0.length : Int) == 0) = false := beq_eq_false_iff_ne.mpr c12
              have c12b1 : ((l0.length : Int) != 0) = true := bne_iff_ne.mpr c12
              have c12b2 : ¬ (l0 = []) := fun h_ => c12 (by rw [h_]; rfl)
              replace H := Option.bind_eq_some_iff.mp H
              obtain ⟨t106, A130, H⟩ := H
              try dsimp only at H
              have A13 := Aside0.mk A130
              clear A130
              obtain ⟨y107, hy107⟩ : ∃ y_ : List Int, y_ = (x4_2.set (x5_1 : Int).toNat (wrap64 ((rd x4_2 x5_1) + (wrap64 ((rd l0 x6_2) * t106))))) := ⟨_, rfl⟩
              replace H : (earshotref03_Transform.l1 k2 l0 (l0.length : Int) y107 x5_1 (wrap64 (x6_2 + 1))) = some r := by first | (rw [hy107]; with_reducible exact H) | (have H2_ := (Option.bind_some _ _).symm.trans H; rw [hy107]; with_reducible exact H2_) | (have H2_ := (Option.bind_some _ _).symm.trans H; with_reducible exact H2_) | with_reducible exact H | (rw [hy107]; exact H) | exact H
              have Ny107 := Aside0.mk hy107
              clear hy107
              have H' := Aside0.mk H
              clear H
              try go_wp2
              have n0_ := Aside0.mk (Kd.R_drew HO_4.out)
              have n1_ := Aside0.mk (below_drew1 HB.out)
              clear HO_4
              clear HB
              have HO_4 := n0_
              have HB := n1_
              clear n0_ n1_
              obtain ⟨Ao16, co16, eo16⟩ := Kd.R_slice HO_4.out
              (first | subst eo16 | (injection eo16 with f1_ f2_ f3_; have f4_ := f1_.symm; have f5_ := f3_.symm; clear f1_ f2_ f3_; subst f4_; subst f5_))
              have p104 : 0 ≤ (x5_1 : Int) := of_decide_eq_true tA
              have q104 : x5_1 < (x4_2.length : Int) := of_decide_eq_true tA
              obtain ⟨ad104, e104, hx104_0⟩ := Kd.at_int (Kd.R_reads' HO_4.out).2.2 x5_1 p104 q104
              cases e104
              replace p104 := eq_true p104
              replace q104 := eq_true q104
              have p105 : 0 ≤ (x6_2 : Int) := of_decide_eq_true tA
              have q105 : x6_2 < (l0.length : Int) := of_decide_eq_true tA
              obtain ⟨ad105, e105, hx105_0⟩ := Kd.at_int HR0.out x6_2 p105 q105
              have hw105_0 := hx105_0
              cases e105
              replace hx105_0 := (HB.out.cell (World.block_lt_of_cell? w _ hx105_0)).trans hx105_0
              replace p105 := eq_true p105
              replace q105 := eq_true q105
              refine start_ (n := 23) (S := fun w' => w'.cell? (ad104.add (x5_1).toNat) = some (.int .i64 (rd x4_2 x5_1)) ∧ w'.cell? (ad105.add (x6_2).toNat) = some (.int .i64 (rd l0 x6_2))) (ds := [22]) #[false, false, false, false, false, false, false, false, false, false, false, false, false, false, false, false, false, false, false, false, false, false, false] (by kernel_rfl) rfl rfl ⟨hx104_0, ((HB.out.cell (World.block_lt_of_cell? w _ hw105_0)).trans hw105_0)⟩ (fun hHeld => ?_); refine with_tabW earshotref03_Transform.tab9 earshotref03_Transform.bits9 (fun HT_ HW_ => ?_)
              generalize wr.drew = w15 at HO_4 HB hx104_0 hx105_0 hHeld ⊢
              refine pI 0 (some 21) (bm 1 23) HT_.out ?_
              refine pI 1 (some 22) (bm 2 23) HT_.out ?_
              refine pI 2 (some 23) (bm 3 23) HT_.out ?_
              refine pI 3 (some 24) (bm 4 23) HT_.out ?_
              refine pI 4 (some 25) (bm 5 23) HT_.out ?_
              refine pure_ (i := 6) (N := some 27) (v := ?_) (a' := ?_) #[true, true, true, true, true, false, true, false, false, false, false, false, false, false, false, false, false, false, false, false, false, false, false] rfl rfl (any_of HT_.out (by kernel_rfl)) (fun _ _ _ h => h) (Or.inl ⟨by rfl, ?_⟩) ?_ ?_
              rotate_left
              ·intro w'
               go_simp
               with_reducible rfl
              rotate_left
              ·simp only [Act.put, List.setIfInBounds_toArray, List.set_cons_zero, List.set_cons_succ, i64_w, i32_w]
               rfl
              refine pure_ (i := 7) (N := some 28) (v := ?_) (a' := ?_) #[true, true, true, true, true, false, true, true, false, false, false, false, false, false, false, false, false, false, false, false, false, false, false] rfl rfl (any_of HT_.out (by kernel_rfl)) (fun _ _ _ h => h) (Or.inl ⟨by rfl, ?_⟩) ?_ ?_
              rotate_left
              ·intro w'
               go_simp
               with_reducible rfl
              rotate_left
              ·simp only [Act.put, List.setIfInBounds_toArray, List.set_cons_zero, List.set_cons_succ, i64_w, i32_w]
               rfl
              refine pure_ (i := 8) (N := some 29) (v := ?_) (a' := ?_) #[true, true, true, true, true, false, true, true, true, false, false, false, false, false, false, false, false, false, false, false, false, false, false] rfl rfl (any_of HT_.out (by kernel_rfl)) (fun _ _ _ h => h) (Or.inl ⟨by rfl, ?_⟩) ?_ ?_
              rotate_left
              ·intro w'
               go_simp
               with_reducible rfl
              rotate_left
              ·simp only [Act.put, List.setIfInBounds_toArray, List.set_cons_zero, List.set_cons_succ, i64_w, i32_w]
               rfl
              refine pure_ (i := 10) (N := some 31) (v := ?_) (a' := ?_) #[true, true, true, true, true, false, true, true, true, false, true, false, false, false, false, false, false, false, false, false, false, false, false] rfl rfl (any_of HT_.out (by kernel_rfl)) (fun _ _ _ h => h) (Or.inl ⟨by rfl, ?_⟩) ?_ ?_
              rotate_left
              ·intro w'
               go_simp
               with_reducible rfl
              rotate_left
              ·simp only [Act.put, List.setIfInBounds_toArray, List.set_cons_zero, List.set_cons_succ, i64_w, i32_w]
               rfl
              refine pure_ (i := 11) (N := some 32) (v := ?_) (a' := ?_) #[true, true, true, true, true, false, true, true, true, false, true, true, false, false, false, false, false, false, false, false, false, false, false] rfl rfl (any_of HT_.out (by kernel_rfl)) (fun _ _ _ h => h) (Or.inl ⟨by rfl, ?_⟩) ?_ ?_
              rotate_left
              ·intro w'
               go_simp
               with_reducible rfl
              rotate_left
              ·simp only [Act.put, List.setIfInBounds_toArray, List.set_cons_zero, List.set_cons_succ, i64_w, i32_w]
               rfl
              refine pure_ (i := 12) (N := some 33) (v := ?_) (a' := ?_) #[true, true, true, true, true, false, true, true, true, false, true, true, true, false, false, false, false, false, false, false, false, false, false] rfl rfl (any_of HT_.out (by kernel_rfl)) (fun _ _ _ h => h) (Or.inl ⟨by rfl, ?_⟩) ?_ ?_
              rotate_left
              ·intro w'
               go_simp
               with_reducible rfl
              rotate_left
              ·simp only [Act.put, List.setIfInBounds_toArray, List.set_cons_zero, List.set_cons_succ, i64_w, i32_w]
               rfl
              refine pure_ (i := 13) (N := some 34) (v := ?_) (a' := ?_) #[true, true, true, true, true, false, true, true, true, false, true, true, true, true, false, false, false, false, false, false, false, false, false] rfl rfl (any_of HT_.out (by kernel_rfl)) (fun _ _ _ h => h) (Or.inl ⟨by rfl, ?_⟩) ?_ ?_
              rotate_left
              ·intro w'
               go_simp
               with_reducible rfl
              rotate_left
              ·simp only [Act.put, List.setIfInBounds_toArray, List.set_cons_zero, List.set_cons_succ, i64_w, i32_w]
               rfl
              refine pure_ (i := 14) (N := some 35) (v := ?_) (a' := ?_) #[true, true, true, true, true, false, true, true, true, false, true, true, true, true, true, false, false, false, false, false, false, false, false] rfl rfl (any_of HT_.out (by kernel_rfl)) (fun _ _ _ h => h) (Or.inl ⟨by rfl, ?_⟩) ?_ ?_
              rotate_left
              ·intro w'
               go_simp
               with_reducible rfl
              rotate_left
              ·simp only [Act.put, List.setIfInBounds_toArray, List.set_cons_zero, List.set_cons_succ, i64_w, i32_w]
               rfl
              refine pure_ (i := 15) (N := some 36) (v := ?_) (a' := ?_) #[true, true, true, true, true, false, true, true, true, false, true, true, true, true, true, true, false, false, false, false, false, false, false] rfl rfl (any_of HT_.out (by kernel_rfl)) (fun _ _ _ h => h) (Or.inl ⟨by rfl, ?_⟩) ?_ ?_
              rotate_left
              ·intro w'
               go_simp
               with_reducible rfl
              rotate_left
              ·simp only [Act.put, List.setIfInBounds_toArray, List.set_cons_zero, List.set_cons_succ, i64_w, i32_w]
               rfl
              refine pure_ (i := 16) (N := some 37) (v := ?_) (a' := ?_) #[true, true, true, true, true, false, true, true, true, false, true, true, true, true, true, true, true, false, false, false, false, false, false] rfl rfl (any_of HT_.out (by kernel_rfl)) (fun _ _ _ h => h) (Or.inl ⟨by rfl, ?_⟩) ?_ ?_
              rotate_left
              ·intro w'
               go_simp
               with_reducible rfl
              rotate_left
              ·simp only [Act.put, List.setIfInBounds_toArray, List.set_cons_zero, List.set_cons_succ, i64_w, i32_w]
               rfl
              refine pure_ (i := 17) (N := some 38) (v := ?_) (a' := ?_) #[true, true, true, true, true, false, true, true, true, false, true, true, true, true, true, true, true, true, false, false, false, false, false] rfl rfl (any_of HT_.out (by kernel_rfl)) (fun _ _ _ h => h) (Or.inl ⟨by rfl, ?_⟩) ?_ ?_
              rotate_left
              ·intro w'
               go_simp
               with_reducible rfl
              rotate_left
              ·simp only [Act.put, List.setIfInBounds_toArray, List.set_cons_zero, List.set_cons_succ, i64_w, i32_w]
               rfl
              refine take_ (i := 5) (N := some 26) (v := ?_) (a' := ?_) #[true, true, true, true, true, true, true, true, true, false, true, true, true, true, true, true, true, true, false, false, false, false, false] rfl rfl (take_ofW HT_.out HW_.out (by kernel_rfl)) (fun _ _ _ h => h) (Or.inl ⟨by rfl, ?_⟩) hHeld ?_ ?_
              rotate_left
              ·rintro w' ⟨s0, s1⟩
               go_simp
               with_reducible rfl
              rotate_left
              ·simp only [Act.put, List.setIfInBounds_toArray, List.set_cons_zero, List.set_cons_succ, i64_w, i32_w]
               rfl
              refine tk2 9 (some 30) (bm 18 23) HT_.out HW_.out hHeld ?_
              refine one_ (i := 18) (N := some 39) #[true, true, true, true, true, true, true, true, true, true, true, true, true, true, true, true, true, true, true, false, false, false, false] rfl rfl (one_of HT_.out (by kernel_rfl)) (by decide) (fun K hK => ?_)
              refine goes_ Tryd.func48 (by kernel_rfl) rfl #[.int .i64 (wrap64 ((wrap64 ((wrap64 ((wrap64 (2 * x6_2)) + 1)) * x5_1)) * (wrap64 ((64 : Int) / (l0.length : Int)))))] (by rfl) rfl rfl tL ?_
              with_reducible refine (earshotref03_C.calls (wrap64 ((wrap64 ((wrap64 ((wrap64 (2 * x6_2)) + 1)) * x5_1)) * (wrap64 ((64 : Int) / (l0.length : Int))))) t106 _ ?side1 A13.out).mono ?_
              (case side1 => exact tC (Kd.C_below HRT.out HB.out))
              rintro e w' ⟨rfl, ⟨nd, rfl⟩⟩
              refine ⟨_, rfl, ?_⟩
              have p14 : 0 ≤ (x5_1 : Int) := of_decide_eq_true tA
              have q14 : (x5_1 : Int) < ((x4_2.length : Int) : Int) := of_decide_eq_true tA
              obtain ⟨go14, co14, eo14, gb14, gl14, cl14, HG14⟩ := Kd.R_form HO_4.out (by omega)
              (first | cases eo14 | (injection eo14 with ea_ en_ ec_; (first | subst ea_ | (injection ea_ with ea_; subst ea_)); subst ec_; clear en_))
              have GB14 := Aside0.mk gb14
              have GG14 := Aside0.mk HG14
              clear gb14 gl14 HG14
              (first | simp only [add_plain] at hx104_0 | skip)
              obtain ⟨hx14_0, hf14_0⟩ := Kd.R_celln 0 HO_4.out (x5_1 : Int) p14 q14
              replace p14 := eq_true p14
              replace q14 := eq_true q14
              have HP17 := Kd.R_putn HO_4.out (x5_1 : Int) (wrap64 ((rd x4_2 x5_1) + (wrap64 ((rd l0 x6_2) * t106))))
              rw [← Ny107.out] at HP17
              have HQ17 := Aside0.mk HP17
              clear HP17
              refine hK.out _ _ ⟨hHeld.1, ((HB.out.cell (World.block_lt_of_cell? w _ hw105_0)).trans hw105_0)⟩ (fun hHeld => ?_)
              clear hK K
              refine norm_ (a' := ?_) ?_ ?_
              rotate_left
              ·show Act.put _ (some 39) _ = _
               simp only [Act.put, List.setIfInBounds_toArray, List.set_cons_zero, List.set_cons_succ, i64_w, i32_w]
               rfl
              refine pI 19 (some 40) (bm 20 23) HT_.out ?_
              refine pI 20 (some 41) (bm 21 23) HT_.out ?_
              refine pI 21 (some 42) (bm 22 23) HT_.out ?_
              refine last_ (i := 22) (N := none) #[true, true, true, true, true, true, true, true, true, true, true, true, true, true, true, true, true, true, true, true, true, true, true] rfl rfl (one_of HT_.out (by kernel_rfl)) (by decide) (fun K hK => ?_)
              refine skip_ (w1 := ?_) (by rfl) rfl ?_ ?_
              rotate_left
              ·go_simp
               rfl
              refine hK.out _ _ ?_
              clear hK K
              refine done_ (done_of HT_.out (by kernel_rfl)) ?_
              try go_wp2
              go_roundg k2
              case measure => have := HK1.out; have := HK2.out; omega
              case rel => exact ⟨(y107), (wrap64 (x6_2 + 1)), (by first | rfl | (simp; done) | (simp only [i64_w]; done) | (simp [*]; done)), H', ⟨by have := HK1.out; have := HK2.out; omega⟩, ⟨tR HQ17.out⟩, ⟨by repeat (first | (with_reducible first | exact HB.out | apply below_alloc | apply pw_below_drewN | apply below_drew1 | refine below_set ?_ GB14.out) | exact HB.out)⟩⟩
            ·rw [if_neg c11] at H
             exact absurd H (by simp)
           ·rw [if_neg c10] at H
            exact absurd H (by simp)
          ·rw [if_neg c9] at H
           exact absurd H (by simp)
         ·rw [if_neg c8] at H
          exact absurd H (by simp)
        ·rw [if_neg c7] at H
         have c7b0 := decide_eq_false c7
         clear c7
         have H' := Aside0.mk H
         clear H
         go_wp2
         go_roundg k2
         case measure => have := HK1.out; have := HK2.out; omega
         case rel => exact ⟨(x4_2), (wrap64 (x5_1 + 1)), (by first | rfl | (simp; done) | (simp only [i64_w]; done) | (simp [*]; done)), H', ⟨by have := HK1.out; have := HK2.out; omega⟩, ⟨tR HO_4.out⟩, ⟨tB⟩⟩
     ·rw [if_neg c6] at H
      have c6b0 := decide_eq_false c6
      clear c6
      obtain rfl := Option.some.inj H
      go_wp2
      go_ret
      exact ⟨_, by first | rfl | (simp [errW_none, errW_some] <;> rfl) | (simp [*, errW_none, errW_some] <;> rfl), tR HO_4.out, tB⟩
  ·rw [if_neg c3] at H
   exact absurd H (by simp)
 ·rw [if_neg c2] at H
  exact absurd H (by simp)

end Go.Proofs.YtdlbmbijobcljaaDoor.X

namespace Go.Proofs.YtdlbmbijobcljaaDoor.Pure
open Go.RowKit Go.Proofs.YtdlbmbijobcljaaDoor.X Go.Proofs.YtdlbmbijobcljaaDoorW.PrintWords Go.Proofs.YtdlbmbijobcljaaDoorW.PrintLast
set_option linter.unusedVariables false
set_option linter.unusedSimpArgs false
set_option linter.unusedSectionVars false
/-- The sum of row j of the transform, its first m terms; q = 64/n. -/
def trSum (l : List Int) (q : Int) (j : Nat) : Nat → Int
  | 0 => 0
  | m + 1 => trSum l q j m + rd l (m : Int) * cosv ((2 * (m : Int) + 1) * (j : Int) * q)
theorem trSum_bound (l : List Int) (h : ∀ x ∈ l, -65536 ≤ x ∧ x ≤ 65536) (q : Int) (j m : Nat) : -(1073741824 * (m : Int)) ≤ trSum l q j m ∧ trSum l q j m ≤ 1073741824 * (m : Int) := by
  induction m with
  | zero => simp [trSum]
  | succ m ih =>
    have h1 := rd_bound l 65536 (by omega) h (m : Int)
    have h2 := cosv_range ((2 * (m : Int) + 1) * (j : Int) * q)
    have h3 := mul_bound (rd l (m : Int)) (cosv ((2 * (m : Int) + 1) * (j : Int) * q)) 65536 16384 (by omega) (by omega) h2.1 h2.2
    simp only [trSum]
    omega
def trAt (l : List Int) (n j : Nat) : Int := trSum l ((64 : Int) / n) j n
def trList (l : List Int) (n j : Nat) : List Int := (List.range j).map (trAt l n) ++ List.replicate (n - j) 0
theorem trList_length (l : List Int) (n j : Nat) (h : j ≤ n) : (trList l n j).length = n := by simp [trList]; omega
theorem trList_set (l : List Int) (n j : Nat) (h : j < n) : (trList l n j).set j (trAt l n j) = trList l n (j + 1) := by
  unfold trList
  rw [List.range_succ, List.map_append, List.set_append_right _ _ (by simp)]
  simp only [List.length_map, List.length_range, Nat.sub_self, List.map_cons, List.map_nil, List.append_assoc]
  congr 1
  rw [show n - j = (n - (j + 1)) + 1 by omega, List.replicate_succ]
  rfl
theorem trList_set0 (l : List Int) (n j : Nat) (h : j < n) : (trList l n j).set j 0 = trList l n j := by
  unfold trList
  rw [List.set_append_right _ _ (by simp)]
  simp only [List.length_map, List.length_range, Nat.sub_self]
  congr 1
  rw [show n - j = (n - (j + 1)) + 1 by omega, List.replicate_succ]
  rfl
theorem rd_set (y : List Int) (j : Nat) (h : j < y.length) (a : Int) : rd (y.set j a) (j : Int) = a := by
  rw [rd_nat, List.getD_eq_getElem?_getD, List.getElem?_set, if_pos rfl, if_pos h]; rfl
section
variable (l : List Int) (n : Nat) (hn : isLen n = true) (hl : l.length = n) (h : ∀ x ∈ l, -65536 ≤ x ∧ x ≤ 65536)
include hn hl h
theorem tr_term (j m : Nat) : wrap64 (trSum l ((64 : Int) / n) j m + wrap64 (rd l (m : Int) * cosv ((2 * (m : Int) + 1) * (j : Int) * ((64 : Int) / n)))) = trSum l ((64 : Int) / n) j (m + 1) ∨ 64 < m := by
  by_cases hm : 64 < m
  · exact .inr hm
  · left
    have h1 := rd_bound l 65536 (by omega) h (m : Int)
    have h2 := cosv_range ((2 * (m : Int) + 1) * (j : Int) * ((64 : Int) / n))
    have h3 := mul_bound (rd l (m : Int)) (cosv ((2 * (m : Int) + 1) * (j : Int) * ((64 : Int) / n))) 65536 16384 (by omega) (by omega) h2.1 h2.2
    have h4 := trSum_bound l h ((64 : Int) / n) j m
    rw [w64 (n := rd l (m : Int) * _) (by omega) (by omega), w64 (by omega) (by omega)]
    rfl
theorem tr_row (j : Nat) (hj : j < n) (y : List Int) (hy : y.length = n) (R : List Int) (hR : Ev (fun k => feature_transform.l0 k l (n : Int) (y.set j (trAt l n j)) (n : Int) ((j + 1 : Nat) : Int)) R) :
    ∀ r m : Nat, m + r = n → Ev (fun k => feature_transform.l1 k l (n : Int) (y.set j (trSum l ((64 : Int) / n) j m)) (j : Int) (n : Int) (j : Int) l (n : Int) (m : Int)) R := by
  obtain ⟨n0, n1, n2, n3, n4⟩ := isLen_dvd n hn
  intro r
  induction r with
  | zero =>
    intro m hm
    obtain rfl : m = n := by omega
    refine Ev.step (fun k => ?_) hR
    simp only [feature_transform.l1]
    rw [if_neg (by omega), w64 (by omega) (by omega)]
    rfl
  | succ r ih =>
    intro m hm
    have h1 := ih (m + 1) (by omega)
    refine Ev.step (fun k => ?_) h1
    simp only [feature_transform.l1]
    have hx : (if (n : Int) = 0 then (none : Option Int) else feature_cosine.f (wrap64 (Int.tdiv (wrap64 ((wrap64 ((wrap64 ((wrap64 (2 * (m : Int))) + 1)) * (j : Int))) * 64)) (n : Int)))) = some (cosv ((2 * (m : Int) + 1) * (j : Int) * ((64 : Int) / n))) := inv_index n m j ((64 : Int) / n) n0 n2 n1 (by omega) hj
    rw [if_neg (by omega)] at hx
    rw [if_pos (by omega), if_pos (by omega), if_pos (by omega), if_pos (by omega), if_pos (by rw [List.length_set]; omega), if_neg (by omega), hx, Option.bind_some, rd_set _ _ (by omega), Int.toNat_natCast, List.set_set]
    rcases tr_term l n hn hl h j m with ht | ht
    · rw [ht, w64 (by omega) (by omega), show (m : Int) + 1 = ((m + 1 : Nat) : Int) by omega]
    · omega
theorem tr_loop : ∀ r j : Nat, j + r = n → Ev (fun k => feature_transform.l0 k l (n : Int) (trList l n j) (n : Int) (j : Int)) (trList l n n) := by
  obtain ⟨n0, n1, n2, n3, n4⟩ := isLen_dvd n hn
  intro r
  induction r with
  | zero =>
    intro j hj
    refine Ev.step (f := fun _ => some (trList l n n)) (fun k => ?_) (Ev.now _)
    simp only [feature_transform.l0]
    rw [if_neg (by omega), show j = n by omega]
  | succ r ih =>
    intro j hj
    have h1 := ih (j + 1) (by omega)
    rw [← trList_set l n j (by omega)] at h1
    have h2 := tr_row l n hn hl h j (by omega) (trList l n j) (trList_length l n j (by omega)) _ h1 n 0 (by omega)
    rw [show trSum l ((64 : Int) / n) j 0 = 0 from rfl, trList_set0 l n j (by omega)] at h2
    refine Ev.step (fun k => ?_) h2
    simp only [feature_transform.l0]
    rw [if_pos (by omega), hl]
    rfl
theorem transform_ev : Ev (fun k => feature_transform.f k l) (trList l n n) := by
  obtain ⟨n0, n1, n2, n3, n4⟩ := isLen_dvd n hn
  refine Ev.congr (fun k => ?_) (tr_loop l n hn hl h n 0 (by omega))
  unfold feature_transform.f
  rw [if_pos (by omega), if_pos (by omega), Option.bind_some, List.length_replicate, hl, Int.toNat_natCast]
  rfl
theorem tr_row' (j : Nat) (hj : j < n) (y : List Int) (hy : y.length = n) (R : List Int) (hR : Ev (fun k => earshotref03_Transform.l0 k l (n : Int) (y.set j (trAt l n j)) ((j + 1 : Nat) : Int)) R) :
    ∀ r m : Nat, m + r = n → Ev (fun k => earshotref03_Transform.l1 k l (n : Int) (y.set j (trSum l ((64 : Int) / n) j m)) (j : Int) (m : Int)) R := by
  obtain ⟨n0, n1, n2, n3, n4⟩ := isLen_dvd n hn
  intro r
  induction r with
  | zero =>
    intro m hm
    obtain rfl : m = n := by omega
    refine Ev.step (fun k => ?_) hR
    simp only [earshotref03_Transform.l1]
    rw [if_neg (by omega), w64 (by omega) (by omega)]
    rfl
  | succ r ih =>
    intro m hm
    have h1 := ih (m + 1) (by omega)
    refine Ev.step (fun k => ?_) h1
    simp only [earshotref03_Transform.l1]
    have hx := inv_index' n m j ((64 : Int) / n) n0 (by omega) n4 n1 (by omega) hj
    rw [if_pos (by omega), if_pos (by omega), if_pos (by rw [List.length_set]; omega), if_pos (by omega), if_pos (by omega), if_neg (by omega), hx, Option.bind_some, rd_set _ _ (by omega), Int.toNat_natCast, List.set_set]
    rcases tr_term l n hn hl h j m with ht | ht
    · rw [ht, w64 (by omega) (by omega), show (m : Int) + 1 = ((m + 1 : Nat) : Int) by omega]
    · omega
theorem tr_loop' : ∀ r j : Nat, j + r = n → Ev (fun k => earshotref03_Transform.l0 k l (n : Int) (trList l n j) (j : Int)) (trList l n n) := by
  obtain ⟨n0, n1, n2, n3, n4⟩ := isLen_dvd n hn
  intro r
  induction r with
  | zero =>
    intro j hj
    refine Ev.step (f := fun _ => some (trList l n n)) (fun k => ?_) (Ev.now _)
    simp only [earshotref03_Transform.l0]
    rw [if_neg (by omega), show j = n by omega]
  | succ r ih =>
    intro j hj
    have h1 := ih (j + 1) (by omega)
    rw [← trList_set l n j (by omega)] at h1
    have h2 := tr_row' l n hn hl h j (by omega) (trList l n j) (trList_length l n j (by omega)) _ h1 n 0 (by omega)
    rw [show trSum l ((64 : Int) / n) j 0 = 0 from rfl, trList_set0 l n j (by omega)] at h2
    refine Ev.step (fun k => ?_) h2
    simp only [earshotref03_Transform.l0]
    rw [if_pos (by omega)]
    rfl
theorem ref_transform_ev : Ev (fun k => earshotref03_Transform.f k l) (trList l n n) := by
  obtain ⟨n0, n1, n2, n3, n4⟩ := isLen_dvd n hn
  refine Ev.congr (fun k => ?_) (tr_loop' l n hn hl h n 0 (by omega))
  unfold earshotref03_Transform.f
  rw [if_pos (by omega), if_pos (by omega), hl, Int.toNat_natCast]
  rfl
theorem within_ok : feature_within.f l 65536 = some true := by
  rw [within_at _ _ (by omega) (by omega)]
  congr 1
  unfold allIn
  rw [List.all_eq_true]
  intro x hx
  have := h x hx
  simp; omega
theorem Transform_ok : Ev (fun k => feature_Transform.f k l) (trList l n n, 0) := by
  refine Ev.congr (f := fun k => (feature_transform.f k l).bind fun t103 => some (t103, 0)) (fun k => ?_) (Ev.bind (transform_ev l n hn hl h) (Ev.now _))
  unfold feature_Transform.f
  rw [hl, possible_at, hn, Option.bind_some, if_pos rfl, within_ok l n hn hl h, Option.bind_some, if_pos rfl]
end
theorem Transform_bad (l : List Int) (h : isLen l.length = false ∨ allIn l (-65536) 65536 = false) (k : Nat) : feature_Transform.f k l = some ([], 2) := by
  unfold feature_Transform.f
  rw [possible_at, Option.bind_some]
  cases hp : isLen l.length with
  | false => rw [if_neg (by simp)]
  | true =>
    rcases h with h | h
    · rw [hp] at h; cases h
    · rw [if_pos rfl, within_at _ _ (by omega) (by omega), h, Option.bind_some]
      rfl
end Go.Proofs.YtdlbmbijobcljaaDoor.Pure

namespace Go.Proofs.YtdlbmbijobcljaaDoor.X
open Go.RowKit Go.Proofs.YtdlbmbijobcljaaDoorW.PrintWords Go.Proofs.YtdlbmbijobcljaaDoorW.PrintLast Go.Proofs.YtdlbmbijobcljaaDoorW.PrintMore
attribute [local go_sem] max2_int min2_int max_two min_two max_three min_three max_four min_four   -- for this text's walks alone
set_option linter.unusedVariables false
set_option linter.unusedSimpArgs false
/-! ### earshotref03_Spectrum: function 54 -/
def earshotref03_Spectrum.l0 : Nat → List Int → List Int → Int → Option (List Int)
 | 0, _, _, _ => none
 | k + 1, x3, x4, x5 => if x5 < (x3.length : Int) then (if 0 ≤ x5 then ((earshotref02_Round.f k (rd x3 x5) 16384).bind fun t108 => (if x5 < (x4.length : Int) then (earshotref03_Spectrum.l0 k x3 (x4.set (x5 : Int).toNat t108) (wrap64 (x5 + 1))) else (none))) else (none)) else (some x4)
def earshotref03_Spectrum.f (k : Nat) (l0 : List Int) : Option (List Int) := (earshotref03_Transform.f k l0).bind fun t101 => (if 0 ≤ (t101.length : Int) then (if ((t101.length : Int) : Int).toNat ≤ 35184372088832 then (earshotref03_Spectrum.l0 k t101 (List.replicate ((t101.length : Int) : Int).toNat 0) 0) else (none)) else (none))
theorem earshotref03_Spectrum.mono_l : ∀ k, (∀ y0 y1 y2, LeO (earshotref03_Spectrum.l0 k y0 y1 y2) (earshotref03_Spectrum.l0 (k + 1) y0 y1 y2))
 | 0 => fun _ _ _ r h => by simp [earshotref03_Spectrum.l0] at h
 | k + 1 => by
  have ih0 := earshotref03_Spectrum.mono_l k
  ·intro y0 y1 y2
   unfold earshotref03_Spectrum.l0
   repeat' first
   | (with_reducible exact ih0 _ _ _)
   | (with_reducible exact earshotref02_Round.mono _ _ _)
   | (with_reducible exact earshotref03_Transform.mono _ _)
   | (with_reducible exact LeO.refl _)
   | (with_reducible exact LeO.none _)
   | (with_reducible refine LeO.ite ?_ ?_)
   | (with_reducible refine LeO.bind ?_ (fun _ => ?_))
   | exact ih0 _ _ _
   | exact earshotref02_Round.mono _ _ _
   | exact earshotref03_Transform.mono _ _
   | exact LeO.none _
   | refine LeO.ite ?_ ?_
   | refine LeO.bind ?_ (fun _ => ?_)
theorem earshotref03_Spectrum.mono : ∀ a0 k, LeO (earshotref03_Spectrum.f k a0) (earshotref03_Spectrum.f (k + 1) a0) := by
 intro a0 k
 have ih0 := earshotref03_Spectrum.mono_l k
 unfold earshotref03_Spectrum.f
 repeat' first
   | (with_reducible exact ih0 _ _ _)
   | (with_reducible exact earshotref02_Round.mono _ _ _)
   | (with_reducible exact earshotref03_Transform.mono _ _)
   | (with_reducible exact LeO.refl _)
   | (with_reducible exact LeO.none _)
   | (with_reducible refine LeO.ite ?_ ?_)
   | (with_reducible refine LeO.bind ?_ (fun _ => ?_))
   | exact ih0 _ _ _
   | exact earshotref02_Round.mono _ _ _
   | exact earshotref03_Transform.mono _ _
   | exact LeO.none _
   | refine LeO.ite ?_ ?_
   | refine LeO.bind ?_ (fun _ => ?_)
set_option maxHeartbeats 8000000 in
set_option maxRecDepth 100000 in
theorem earshotref03_Spectrum.calls (k : Nat) (A0 : Option Addr) (c0 : Nat) (l0 : List Int) (r : List Int) (w : World) (ht : Kd.C (Kd.int .i64) w (some ⟨0, 0, none⟩) 65 tabL) (hr0 : Kd.C (Kd.int .i64) w A0 l0.length l0) (hc0 : l0.length ≤ c0) (h : earshotref03_Spectrum.f k l0 = some r) :
  Calls Tryd.prog 54 #[.slice A0 l0.length c0] w fun e w' => ∃ v0_ : Value, e = .returned (v0_) ∧ Kd.R (Kd.int .i64) 3 w' w.heap.size (fun _ => True) v0_ r ∧ Below w.heap.size w w' := by
 have HRT := Aside0.mk ht
 clear ht
 have HR0 := Aside0.mk hr0
 have HC0 := Aside0.mk hc0
 clear hr0 hc0
 have HB := Aside0.mk (Below.refl w.heap.size w)
 have H : ((earshotref03_Transform.f k l0).bind fun t101 => (if 0 ≤ (t101.length : Int) then (if ((t101.length : Int) : Int).toNat ≤ 35184372088832 then (earshotref03_Spectrum.l0 k t101 (List.replicate ((t101.length : Int) : Int).toNat 0) 0) else (none)) else (none))) = some r := h
 clear h
 replace H := Option.bind_eq_some_iff.mp H
 obtain ⟨t101, A20, H⟩ := H
 try dsimp only at H
 have A2 := Aside0.mk A20
 clear A20
 by_cases c3 : 0 ≤ (t101.length : Int)
 ·rw [if_pos c3] at H
  have c3b0 := eq_true c3
  have c3b1 := decide_eq_true c3
  clear c3
  by_cases c4 : ((t101.length : Int) : Int).toNat ≤ 35184372088832
  ·rw [if_pos c4] at H
   have c4b0 := eq_true c4
   have c4b1 := decide_eq_true c4
   clear c4
   obtain ⟨y104, hy104⟩ : ∃ y_ : List Int, y_ = (List.replicate ((t101.length : Int) : Int).toNat 0) := ⟨_, rfl⟩
   replace H : (earshotref03_Spectrum.l0 k t101 y104 0) = some r := by first | (rw [hy104]; with_reducible exact H) | (have H2_ := (Option.bind_some _ _).symm.trans H; rw [hy104]; with_reducible exact H2_) | (have H2_ := (Option.bind_some _ _).symm.trans H; with_reducible exact H2_) | with_reducible exact H | (rw [hy104]; exact H) | exact H
   have Ny104 := Aside0.mk hy104
   clear hy104
   have H' := Aside0.mk H
   clear H
   go_enter Tryd.func54, Tryd.ntmps54
   go_wp2_with (first | ((with_reducible refine gate_callee (f := 53) rfl ?_); refine goesL_ (some 7) rfl rfl Tryd.func53 (by kernel_rfl) rfl #[.slice A0 l0.length c0] rfl tL ?_; (with_reducible refine (earshotref03_Transform.calls k _ _ l0 t101 _ ?side3 ?side1 ?side2 A2.out).mono ?_); (case side1 => exact tC HR0.out); (case side2 => exact HC0.out); (case side3 => exact tC HRT.out); rintro e w5 ⟨v102, rfl, ho0, hb⟩; refine ⟨_, rfl, ?_⟩; have n0_ := Aside0.mk (Kd.R_lower ho0 (below_size tB)); have n1_ := Aside0.mk (below_step tB hb); clear HB; have HO103 := n0_; have HB := n1_; clear n0_ n1_; (try clear hb); (try clear hb2); (try clear hk); (try clear hi); (try clear ho0); obtain ⟨Ao6, co6, eo6⟩ := Kd.R_slice HO103.out; subst eo6) | ((with_reducible refine gate_dst (N := 10) rfl ?_); refine Kd.R_make (Kd.int .i64) _ 3 rfl (N := 10) rfl 22 _ _ rfl (t101.length : Int) rfl rfl Tryd.underlying22 (.int .i64 0) 8 info3 rfl (by decide) (by omega) 0 (ok := fun _ => True) (okp := fun _ => True) rfl (fun _ hk => hk) trivial (of_decide_eq_true tA) (Nat.le_trans (Nat.mul_le_mul_right _ (of_decide_eq_true tA : (t101.length : Int).toNat ≤ 35184372088832)) (by omega)) (Below.refl _ _) (Nat.le_refl _) ?_; intro v105 w7 ho8 hb hg_ hnew_; clear hg_ hnew_; (first | rw [← Ny104.out] at ho8 | (simp only [Int.reduceToNat] at ho8; rw [← Ny104.out] at ho8)); have n0_ := Aside0.mk (Kd.R_elder' (tR HO103.out) (Kd.R_base ho8) hb); have n1_ := Aside0.mk (Kd.R_lower (Kd.R_new' ho8 (Kd.R_lt (tR HO103.out))) (below_size tB)); have n2_ := Aside0.mk (below_step tB hb); clear HO103; clear HB; have HO103 := n0_; have HO106 := n1_; have HB := n2_; clear n0_ n1_ n2_; clear hb ho8))
   go_loopg [5] k (fun kq v5 w' => ∃ (x4_1 : List Int) (x5_1 : Int), v5 = .int .i64 x5_1 ∧ Aside0 (earshotref03_Spectrum.l0 kq t101 x4_1 x5_1 = some r) ∧ Aside0 (kq ≤ k) ∧ Aside0 (Kd.R (Kd.int .i64) 3 w' w.heap.size (fun k_ => some k_ ≠ (v105 : Value).ownBlock) (.slice Ao6 t101.length co6) t101) ∧ Aside0 (Kd.R (Kd.int .i64) 3 w' w.heap.size (fun k_ => some k_ ≠ ((.slice Ao6 t101.length co6) : Value).ownBlock) v105 x4_1) ∧ Aside0 (Below w.heap.size w w'))
   case atStart => exact ⟨(y104), (0), (by first | rfl | (simp; done) | (simp only [i64_w]; done) | (simp [*]; done)), H', ⟨Nat.le_refl _⟩, ⟨by (with_reducible repeat (first | apply Kd.R_alloc | apply Kd.R_drewN | apply Kd.R_drew)); exact Kd.R_mono HO103.out (fun _ hk => hk.2)⟩, ⟨by (with_reducible repeat (first | apply Kd.R_alloc | apply Kd.R_drewN | apply Kd.R_drew)); exact Kd.R_mono HO106.out (fun _ hk => hk.2)⟩, ⟨tB⟩⟩
   case round =>
    clear H'
    try clear p2
    try clear c3
    try clear c3b0
    try clear c3b1
    try clear c4
    try clear c4b0
    try clear c4b1
    try clear c5
    obtain ⟨x4_1, x5_1, rfl, HA, HK1, HO_3, HO_4, HB⟩ := hrel
    cases gk with
    | zero => exact absurd HA.out (by simp [earshotref03_Spectrum.l0])
    | succ k1 =>
     have H := HA.out
     clear HA
     simp only [earshotref03_Spectrum.l0] at H
     by_cases c9 : x5_1 < (t101.length : Int)
     ·rw [if_pos c9] at H
      have c9b0 := decide_eq_true c9
      clear c9
      by_cases c10 : 0 ≤ x5_1
      ·rw [if_pos c10] at H
       have c10b0 := decide_eq_true c10
       clear c10
       replace H := Option.bind_eq_some_iff.mp H
       obtain ⟨t108, A110, H⟩ := H
       try dsimp only at H
       have A11 := Aside0.mk A110
       clear A110
       by_cases c12 : x5_1 < (x4_1.length : Int)
       ·rw [if_pos c12] at H
        have c12b0 := decide_eq_true c12
        clear c12
        obtain ⟨y109, hy109⟩ : ∃ y_ : List Int, y_ = (x4_1.set (x5_1 : Int).toNat t108) := ⟨_, rfl⟩
        replace H : (earshotref03_Spectrum.l0 k1 t101 y109 (wrap64 (x5_1 + 1))) = some r := by first | (rw [hy109]; with_reducible exact H) | (have H2_ := (Option.bind_some _ _).symm.trans H; rw [hy109]; with_reducible exact H2_) | (have H2_ := (Option.bind_some _ _).symm.trans H; with_reducible exact H2_) | with_reducible exact H | (rw [hy109]; exact H) | exact H
        have Ny109 := Aside0.mk hy109
        clear hy109
        have H' := Aside0.mk H
        clear H
        have p107 : 0 ≤ (x5_1 : Int) := of_decide_eq_true tA
        have q107 : x5_1 < (t101.length : Int) := of_decide_eq_true tA
        obtain ⟨ad107, e107, hx107_0⟩ := Kd.at_int (Kd.R_reads' HO_3.out).2.2 x5_1 p107 q107
        cases e107
        replace p107 := eq_true p107
        replace q107 := eq_true q107
        go_wp2_with (first | ((with_reducible refine gate_callee (f := 83) rfl ?_); refine goesL_ (some 23) rfl rfl Tryd.func83 (by kernel_rfl) rfl #[.int .i64 (rd t101 x5_1), .int .i64 16384] rfl tL ?_; (with_reducible refine (earshotref02_Round.calls k1 (rd t101 x5_1) 16384 t108 _ A11.out).mono ?_); rintro e w' ⟨rfl, ⟨nd, rfl⟩⟩; refine ⟨_, rfl, ?_⟩; (try (rw [drewN_self wr]; generalize hq_ : World.drewN wr _ = wr; have n0_ : Aside0 (Kd.R (Kd.int .i64) 3 wr w.heap.size (fun k_ => some k_ ≠ (v105 : Value).ownBlock) (.slice (some ad107) t101.length co6) t101) := ⟨by rw [← hq_]; exact (tR HO_3.out)⟩; have n1_ : Aside0 (Kd.R (Kd.int .i64) 3 wr w.heap.size (fun k_ => some k_ ≠ (.slice (some ad107) t101.length co6 : Value).ownBlock) v105 x4_1) := ⟨by rw [← hq_]; exact (tR HO_4.out)⟩; have n2_ : Aside0 (Below w.heap.size w wr) := ⟨by rw [← hq_]; exact tB⟩; clear HO_3 HO_4 HB hq_; have HO_3 := n0_; have HO_4 := n1_; have HB := n2_; clear n0_ n1_ n2_)); have p13 : 0 ≤ (x5_1 : Int) := of_decide_eq_true tA; have q13 : (x5_1 : Int) < ((x4_1.length : Int) : Int) := of_decide_eq_true tA; obtain ⟨go13, co13, eo13, gb13, gl13, cl13, HG13⟩ := Kd.R_form HO_4.out (by omega); (first | cases eo13 | (injection eo13 with ea_ en_ ec_; (first | subst ea_ | (injection ea_ with ea_; subst ea_)); subst ec_; clear en_)); have GB13 := Aside0.mk gb13; have GG13 := Aside0.mk HG13; clear gb13 gl13 HG13; obtain ⟨hx13_0, hf13_0⟩ := Kd.R_celln 0 HO_4.out (x5_1 : Int) p13 q13; replace p13 := eq_true p13; replace q13 := eq_true q13; obtain ⟨hy14_, hz14_⟩ := Kd.R_celln 0 HO_4.out (x5_1 : Int) (of_decide_eq_true tA) (of_decide_eq_true tA); have HP14 := Kd.R_putg HO_4.out (x5_1 : Int) t108) | ((with_reducible refine gate_store (t := 3) (p := 24) rfl ?_); refine store_event (t := 3) (p := 24) (v := ?vo_w15) (w1 := (wr.setCell ⟨go13, (x5_1 : Int).toNat, none⟩ (.int .i64 t108))) ?hg ?ho ?hn ?hr ?_; (case ho => rfl); (case hg => rfl); (case hn => rfl); (case hr => first | (go_simp; done) | (go_simp; rfl)); intro w15 hw; have hg : wr.grownBy w15 (some go13) := (by rw [hw]; exact HP14.2); have hp_ : Kd.R (Kd.int .i64) 3 w15 w.heap.size (fun k_ => some k_ ≠ (.slice (some ad107) t101.length co6 : Value).ownBlock) (.slice (some ⟨go13, 0, none⟩) x4_1.length co13) y109 := (by rw [hw, Ny109.out]; exact HP14.1); clear HP14; have n0_ := Aside0.mk (Kd.R_after (v := (.slice (some ⟨go13, 0, none⟩) x4_1.length co13)) (v1 := (.slice (some ⟨go13, 0, none⟩) x4_1.length co13)) (ok := (fun _ => True)) (by (with_reducible repeat (first | apply Kd.R_alloc | apply Kd.R_drewN | apply Kd.R_drew)); exact Kd.R_mono HO_3.out (fun _ hk => ⟨trivial, hk⟩)) hg (.inl rfl)); have n1_ := Aside0.mk (hp_); have n2_ := Aside0.mk ((by rw [hw]; exact below_set (HB.out) GB13.out : Below w.heap.size w w15)); clear HO_3; clear HO_4; clear HB; have HO_3 := n0_; have HO_4 := n1_; have HB := n2_; clear n0_ n1_ n2_; clear hg hw hp_))
        go_roundg k1
        case measure => have := HK1.out; omega
        case rel => exact ⟨(y109), (wrap64 (x5_1 + 1)), (by first | rfl | (simp; done) | (simp only [i64_w]; done) | (simp [*]; done)), H', ⟨by have := HK1.out; omega⟩, ⟨by (with_reducible repeat (first | apply Kd.R_alloc | apply Kd.R_drewN | apply Kd.R_drew)); exact Kd.R_mono HO_3.out (fun _ hk => hk.2)⟩, ⟨tR HO_4.out⟩, ⟨tB⟩⟩
       ·rw [if_neg c12] at H
        exact absurd H (by simp)
      ·rw [if_neg c10] at H
       exact absurd H (by simp)
     ·rw [if_neg c9] at H
      have c9b0 := decide_eq_false c9
      clear c9
      obtain rfl := Option.some.inj H
      go_wp2
      go_ret
      exact ⟨_, by first | rfl | (simp [errW_none, errW_some] <;> rfl) | (simp [*, errW_none, errW_some] <;> rfl), by (with_reducible repeat (first | apply Kd.R_alloc | apply Kd.R_drewN | apply Kd.R_drew)); exact Kd.R_mono HO_4.out (fun _ hk => trivial), tB⟩
  ·rw [if_neg c4] at H
   exact absurd H (by simp)
 ·rw [if_neg c3] at H
  exact absurd H (by simp)

/-! ### feature_Spectrum: function 50 -/
def feature_Spectrum.f (k : Nat) (l0 : List Int) : Option (List Int × Int) := (feature_possible.f (l0.length : Int)).bind fun t101 => (if t101 = true then ((feature_within.f l0 65536).bind fun t102 => (if t102 = true then ((feature_spectrum.f k l0).bind fun t103 => (some (t103, 0))) else (some (([] : List Int), 2)))) else (some (([] : List Int), 2)))
theorem feature_Spectrum.mono : ∀ a0 k, LeO (feature_Spectrum.f k a0) (feature_Spectrum.f (k + 1) a0) := by
 intro a0 k
 unfold feature_Spectrum.f
 repeat' first
   | (with_reducible exact feature_spectrum.mono _ _)
   | (with_reducible exact LeO.refl _)
   | (with_reducible exact LeO.none _)
   | (with_reducible refine LeO.ite ?_ ?_)
   | (with_reducible refine LeO.bind ?_ (fun _ => ?_))
   | exact feature_spectrum.mono _ _
   | exact LeO.none _
   | refine LeO.ite ?_ ?_
   | refine LeO.bind ?_ (fun _ => ?_)
set_option maxHeartbeats 8000000 in
set_option maxRecDepth 100000 in
theorem feature_Spectrum.calls (k : Nat) (A0 : Option Addr) (c0 : Nat) (l0 : List Int) (r1 : List Int) (r2 : Int) (w : World) (ht : Kd.C (Kd.int .i64) w (some ⟨0, 0, none⟩) 65 tabL) (hr0 : Kd.C (Kd.int .i64) w A0 l0.length l0) (hc0 : l0.length ≤ c0) (h : feature_Spectrum.f k l0 = some (r1, r2)) :
  Calls Tryd.prog 50 #[.slice A0 l0.length c0] w fun e w' => ∃ v0_ : Value, e = .returned (.tuple #[v0_, .int .i64 r2]) ∧ Kd.R (Kd.int .i64) 3 w' w.heap.size (fun _ => True) v0_ r1 ∧ Below w.heap.size w w' := by
 have HRT := Aside0.mk ht
 clear ht
 have HR0 := Aside0.mk hr0
 have HC0 := Aside0.mk hc0
 clear hr0 hc0
 have HB := Aside0.mk (Below.refl w.heap.size w)
 have H : ((feature_possible.f (l0.length : Int)).bind fun t101 => (if t101 = true then ((feature_within.f l0 65536).bind fun t102 => (if t102 = true then ((feature_spectrum.f k l0).bind fun t103 => (some (t103, 0))) else (some (([] : List Int), 2)))) else (some (([] : List Int), 2)))) = some (r1, r2) := h
 clear h
 replace H := Option.bind_eq_some_iff.mp H
 obtain ⟨t101, A20, H⟩ := H
 try dsimp only at H
 have A2 := Aside0.mk A20
 clear A20
 by_cases c3 : t101 = true
 ·subst c3
  have H1 : ((feature_within.f l0 65536).bind fun t102 => (if t102 = true then ((feature_spectrum.f k l0).bind fun t103 => (some (t103, 0))) else (some (([] : List Int), 2)))) = some (r1, r2) := by rw [if_pos rfl] at H; exact H
  clear H
  have H := H1
  clear H1
  replace H := Option.bind_eq_some_iff.mp H
  obtain ⟨t102, A40, H⟩ := H
  try dsimp only at H
  have A4 := Aside0.mk A40
  clear A40
  by_cases c5 : t102 = true
  ·subst c5
   have H1 : ((feature_spectrum.f k l0).bind fun t103 => (some (t103, 0))) = some (r1, r2) := by rw [if_pos rfl] at H; exact H
   clear H
   have H := H1
   clear H1
   replace H := Option.bind_eq_some_iff.mp H
   obtain ⟨t103, A60, H⟩ := H
   try dsimp only at H
   have A6 := Aside0.mk A60
   clear A60
   simp only [Option.some.injEq, Prod.mk.injEq] at H
   obtain ⟨rfl, rfl⟩ := H
   go_enter Tryd.func50, Tryd.ntmps50
   go_wp2_with (first | ((with_reducible refine gate_callee (f := 79) rfl ?_); refine goesL_ (some 6) rfl rfl Tryd.func79 (by kernel_rfl) rfl #[.int .i64 (l0.length : Int)] rfl tL ?_; (with_reducible refine (feature_possible.calls (l0.length : Int) true _ A2.out).mono ?_); rintro e w' ⟨rfl, ⟨nd, rfl⟩⟩; refine ⟨_, rfl, ?_⟩) | (go_at_call 80; (with_reducible refine (feature_within.calls _ _ l0 65536 true _ ?side1 ?side2 A4.out).mono ?_); (case side1 => exact tC HR0.out); (case side2 => exact HC0.out); rintro e w7 ⟨rfl, hb⟩; have n0_ := Aside0.mk (below_step tB hb); clear HB; have HB := n0_; clear n0_; (try clear hb); (try clear hb2); (try clear hk); (try clear hi)) | ((with_reducible refine gate_callee (f := 112) rfl ?_); refine goesL_ (some 14) rfl rfl Tryd.func112 (by kernel_rfl) rfl #[.slice A0 l0.length c0] rfl tL ?_; (with_reducible refine (feature_spectrum.calls k _ _ l0 t103 _ ?side3 ?side1 ?side2 A6.out).mono ?_); (case side1 => exact tC (Kd.C_below HR0.out HB.out)); (case side2 => exact HC0.out); (case side3 => exact tC (Kd.C_below HRT.out HB.out)); rintro e w8 ⟨v104, rfl, ho0, hb⟩; refine ⟨_, rfl, ?_⟩; have n0_ := Aside0.mk (Kd.R_lower ho0 (below_size tB)); have n1_ := Aside0.mk (below_step tB hb); clear HB; have HO105 := n0_; have HB := n1_; clear n0_ n1_; (try clear hb); (try clear hb2); (try clear hk); (try clear hi); (try clear ho0)))
   go_ret2
   exact ⟨_, by first | rfl | (simp [errW_none, errW_some] <;> rfl) | (simp [*, errW_none, errW_some] <;> rfl), tR HO105.out, tB⟩
  ·replace c5 := Bool.eq_false_iff.mpr c5
   subst c5
   have H1 : (some (([] : List Int), 2)) = some (r1, r2) := by rw [if_neg (show ¬ (false = true) by decide)] at H; exact H
   clear H
   have H := H1
   clear H1
   simp only [Option.some.injEq, Prod.mk.injEq] at H
   obtain ⟨rfl, rfl⟩ := H
   go_enter Tryd.func50, Tryd.ntmps50
   go_wp2_with (first | ((with_reducible refine gate_callee (f := 79) rfl ?_); refine goesL_ (some 6) rfl rfl Tryd.func79 (by kernel_rfl) rfl #[.int .i64 (l0.length : Int)] rfl tL ?_; (with_reducible refine (feature_possible.calls (l0.length : Int) true _ A2.out).mono ?_); rintro e w' ⟨rfl, ⟨nd, rfl⟩⟩; refine ⟨_, rfl, ?_⟩) | (go_at_call 80; (with_reducible refine (feature_within.calls _ _ l0 65536 false _ ?side1 ?side2 A4.out).mono ?_); (case side1 => exact tC HR0.out); (case side2 => exact HC0.out); rintro e w9 ⟨rfl, hb⟩; have n0_ := Aside0.mk (below_step tB hb); clear HB; have HB := n0_; clear n0_; (try clear hb); (try clear hb2); (try clear hk); (try clear hi)))
   go_ret2
   exact ⟨_, by first | rfl | (simp [errW_none, errW_some] <;> rfl) | (simp [*, errW_none, errW_some] <;> rfl), by first | exact Kd.R_nil _ _ _ _ _ | exact Kd.N_nil _ _ _ _ _ | exact Kd.V_nil _ _ _ _ _ | exact Kd.Q_nil _ _ _ _ _ | exact Kd.S_nil _ _ _ _ _, tB⟩
 ·replace c3 := Bool.eq_false_iff.mpr c3
  subst c3
  have H1 : (some (([] : List Int), 2)) = some (r1, r2) := by rw [if_neg (show ¬ (false = true) by decide)] at H; exact H
  clear H
  have H := H1
  clear H1
  simp only [Option.some.injEq, Prod.mk.injEq] at H
  obtain ⟨rfl, rfl⟩ := H
  go_enter Tryd.func50, Tryd.ntmps50
  go_wp2_with (first | ((with_reducible refine gate_callee (f := 79) rfl ?_); refine goesL_ (some 6) rfl rfl Tryd.func79 (by kernel_rfl) rfl #[.int .i64 (l0.length : Int)] rfl tL ?_; (with_reducible refine (feature_possible.calls (l0.length : Int) false _ A2.out).mono ?_); rintro e w' ⟨rfl, ⟨nd, rfl⟩⟩; refine ⟨_, rfl, ?_⟩))
  go_ret2
  exact ⟨_, by first | rfl | (simp [errW_none, errW_some] <;> rfl) | (simp [*, errW_none, errW_some] <;> rfl), by first | exact Kd.R_nil _ _ _ _ _ | exact Kd.N_nil _ _ _ _ _ | exact Kd.V_nil _ _ _ _ _ | exact Kd.Q_nil _ _ _ _ _ | exact Kd.S_nil _ _ _ _ _, tB⟩

end Go.Proofs.YtdlbmbijobcljaaDoor.X

namespace Go.Proofs.YtdlbmbijobcljaaDoor.Pure
open Go.RowKit Go.Proofs.YtdlbmbijobcljaaDoor.X Go.Proofs.YtdlbmbijobcljaaDoorW.PrintWords Go.Proofs.YtdlbmbijobcljaaDoorW.PrintLast
set_option linter.unusedVariables false
set_option linter.unusedSimpArgs false
set_option linter.unusedSectionVars false
theorem rounded_eq : ∀ (k : Nat) (x d : Int), feature_rounded.f k x d = earshotref02_Round.f k x d := by
  intro k
  induction k with
  | zero => intro x d; rfl
  | succ k ih =>
    intro x d
    simp only [feature_rounded.f, earshotref02_Round.f, ih]
theorem rounded_ev (x d : Int) (hx0 : -4611686018427387903 ≤ x) (hx1 : x ≤ 4611686018427387903) (hd : 0 < d) (hd1 : d ≤ 1099511627776) (hs0 : -(2 * x) + d ≤ 9223372036854775807) (hs : 2 * x + d ≤ 9223372036854775807) : Ev (fun k => feature_rounded.f k x d) (rnd x d) :=
  Ev.congr (fun k => rounded_eq k x d) (round_ev x d hx0 hx1 hd hd1 hs0 hs)
/-- The first j numbers rounded, the others as in t. -/
def spList (s t : List Int) (j : Nat) : List Int := (List.range j).map (fun (i : Nat) => rnd (rd s (i : Int)) 16384) ++ t.drop j
theorem spList_length (s t : List Int) (j : Nat) (h : j ≤ t.length) : (spList s t j).length = t.length := by simp [spList]; omega
theorem spList_set (s t : List Int) (j : Nat) (h : j < t.length) : (spList s t j).set j (rnd (rd s (j : Int)) 16384) = spList s t (j + 1) := by
  unfold spList
  rw [List.range_succ, List.map_append, List.set_append_right _ _ (by simp)]
  simp only [List.length_map, List.length_range, Nat.sub_self, List.map_cons, List.map_nil, List.append_assoc]
  congr 1
  rw [List.drop_eq_getElem_cons h]
  rfl
theorem spList_rd (s : List Int) (j : Nat) (h : j < s.length) : rd (spList s s j) (j : Int) = rd s (j : Int) := by
  unfold spList
  rw [rd_nat, rd_nat, List.getD_eq_getElem?_getD, List.getElem?_append_right (by simp), List.getD_eq_getElem?_getD]
  simp
theorem spList_all (s t : List Int) (h : t.length = s.length) : spList s t s.length = spList s s s.length := by
  unfold spList
  rw [List.drop_of_length_le (by omega), List.drop_of_length_le (Nat.le_refl _)]
section
variable (s : List Int) (hs : ∀ x ∈ s, -1099511627776 ≤ x ∧ x ≤ 1099511627776) (hl : s.length ≤ 4611686018427387903)
include hs hl
theorem sp_loop : ∀ r j : Nat, j + r = s.length → Ev (fun k => feature_spectrum.l0 k (spList s s j) (s.length : Int) (j : Int)) (spList s s s.length) := by
  intro r
  induction r with
  | zero =>
    intro j hj
    refine Ev.step (f := fun _ => some (spList s s s.length)) (fun k => ?_) (Ev.now _)
    simp only [feature_spectrum.l0]
    rw [if_neg (by omega), show j = s.length by omega]
  | succ r ih =>
    intro j hj
    have h1 := ih (j + 1) (by omega)
    rw [← spList_set s s j (by omega)] at h1
    have hb := rd_bound s 1099511627776 (by omega) hs (j : Int)
    refine Ev.step (f := fun k => (feature_rounded.f k (rd s (j : Int)) 16384).bind fun t105 => feature_spectrum.l0 k ((spList s s j).set j t105) (s.length : Int) ((j + 1 : Nat) : Int)) (fun k => ?_) (Ev.bind (rounded_ev _ _ (by omega) (by omega) (by omega) (by omega) (by omega) (by omega)) h1)
    simp only [feature_spectrum.l0]
    rw [if_pos (by omega), if_pos (by omega), if_pos (by rw [spList_length _ _ _ (by omega)]; omega), spList_rd s j (by omega), w64 (by omega) (by omega), Int.toNat_natCast]
    rfl
theorem sp_loop' (t : List Int) (ht : t.length = s.length) : ∀ r j : Nat, j + r = s.length → Ev (fun k => earshotref03_Spectrum.l0 k s (spList s t j) (j : Int)) (spList s s s.length) := by
  intro r
  induction r with
  | zero =>
    intro j hj
    refine Ev.step (f := fun _ => some (spList s s s.length)) (fun k => ?_) (Ev.now _)
    simp only [earshotref03_Spectrum.l0]
    rw [if_neg (by omega), show j = s.length by omega, spList_all s t ht]
  | succ r ih =>
    intro j hj
    have h1 := ih (j + 1) (by omega)
    rw [← spList_set s t j (by omega)] at h1
    have hb := rd_bound s 1099511627776 (by omega) hs (j : Int)
    refine Ev.step (f := fun k => (earshotref02_Round.f k (rd s (j : Int)) 16384).bind fun t108 => earshotref03_Spectrum.l0 k s ((spList s t j).set j t108) ((j + 1 : Nat) : Int)) (fun k => ?_) (Ev.bind (round_ev _ _ (by omega) (by omega) (by omega) (by omega) (by omega) (by omega)) h1)
    simp only [earshotref03_Spectrum.l0]
    rw [if_pos (by omega), if_pos (by omega)]
    congr 1
    funext t108
    rw [if_pos (by rw [spList_length _ _ _ (by omega)]; omega), w64 (by omega) (by omega), Int.toNat_natCast]
    rfl
end
theorem trList_bound (l : List Int) (n : Nat) (hn : n ≤ 64) (h : ∀ x ∈ l, -65536 ≤ x ∧ x ≤ 65536) : ∀ x ∈ trList l n n, -1099511627776 ≤ x ∧ x ≤ 1099511627776 := by
  intro x hx
  simp only [trList, Nat.sub_self, List.replicate_zero, List.append_nil, List.mem_map, List.mem_range] at hx
  obtain ⟨j, hj, rfl⟩ := hx
  have := trSum_bound l h ((64 : Int) / n) j n
  unfold trAt
  omega
section
variable (l : List Int) (n : Nat) (hn : isLen n = true) (hl : l.length = n) (h : ∀ x ∈ l, -65536 ≤ x ∧ x ≤ 65536)
include hn hl h
theorem spectrum_ev : Ev (fun k => feature_spectrum.f k l) (spList (trList l n n) (trList l n n) n) := by
  obtain ⟨n0, n1, n2, n3, n4⟩ := isLen_dvd n hn
  have hL := trList_length l n n (Nat.le_refl _)
  have e := sp_loop (trList l n n) (trList_bound l n n1 h) (by omega) n 0 (by omega)
  rw [hL] at e
  refine Ev.congr (f := fun k => (feature_transform.f k l).bind fun t101 => feature_spectrum.l0 k t101 (t101.length : Int) 0) (fun k => rfl) (Ev.bind (transform_ev l n hn hl h) ?_)
  rw [hL]
  exact e
theorem ref_spectrum_ev : Ev (fun k => earshotref03_Spectrum.f k l) (spList (trList l n n) (trList l n n) n) := by
  obtain ⟨n0, n1, n2, n3, n4⟩ := isLen_dvd n hn
  have hL := trList_length l n n (Nat.le_refl _)
  have e := sp_loop' (trList l n n) (trList_bound l n n1 h) (by omega) (List.replicate n 0) (by simp [hL]) n 0 (by omega)
  rw [hL] at e
  refine Ev.congr (f := fun k => (earshotref03_Transform.f k l).bind fun t101 => (if 0 ≤ (t101.length : Int) then (if ((t101.length : Int) : Int).toNat ≤ 35184372088832 then (earshotref03_Spectrum.l0 k t101 (List.replicate ((t101.length : Int) : Int).toNat 0) 0) else (none)) else (none))) (fun k => rfl) (Ev.bind (ref_transform_ev l n hn hl h) ?_)
  refine Ev.congr (fun k => ?_) e
  rw [hL, if_pos (by omega), if_pos (by omega), Int.toNat_natCast]
  rfl
theorem Spectrum_ok : Ev (fun k => feature_Spectrum.f k l) (spList (trList l n n) (trList l n n) n, 0) := by
  refine Ev.congr (f := fun k => (feature_spectrum.f k l).bind fun t103 => some (t103, 0)) (fun k => ?_) (Ev.bind (spectrum_ev l n hn hl h) (Ev.now _))
  unfold feature_Spectrum.f
  rw [hl, possible_at, hn, Option.bind_some, if_pos rfl, within_ok l n hn hl h, Option.bind_some, if_pos rfl]
end
theorem Spectrum_bad (l : List Int) (h : isLen l.length = false ∨ allIn l (-65536) 65536 = false) (k : Nat) : feature_Spectrum.f k l = some ([], 2) := by
  unfold feature_Spectrum.f
  rw [possible_at, Option.bind_some]
  cases hp : isLen l.length with
  | false => rw [if_neg (by simp)]
  | true =>
    rcases h with h | h
    · rw [hp] at h; cases h
    · rw [if_pos rfl, within_at _ _ (by omega) (by omega), h, Option.bind_some]
      rfl
end Go.Proofs.YtdlbmbijobcljaaDoor.Pure

namespace Go.Proofs.YtdlbmbijobcljaaDoor.Pure
open Go.RowKit Go.Proofs.YtdlbmbijobcljaaDoor.X Go.Proofs.YtdlbmbijobcljaaDoorW.PrintWords Go.Proofs.YtdlbmbijobcljaaDoorW.PrintLast Go.Proofs.YtdlbmbijobcljaaDoorW.PrintMore
set_option linter.unusedVariables false
set_option linter.unusedSimpArgs false
set_option linter.unusedSectionVars false
/-- A sum over a list. -/
def sumL {α : Type} (f : α → Int) : List α → Int
  | [] => 0
  | x :: xs => f x + sumL f xs
theorem sumL_append {α : Type} (f : α → Int) (l m : List α) : sumL f (l ++ m) = sumL f l + sumL f m := by
  induction l with
  | nil => simp [sumL]
  | cons x xs ih => simp only [List.cons_append, sumL, ih]; omega
theorem sumL_take {α : Type} (f : α → Int) (l : List α) (j : Nat) (h : j < l.length) : sumL f (l.take (j + 1)) = sumL f (l.take j) + f l[j] := by
  rw [List.take_succ_eq_append_getElem h, sumL_append]
  simp [sumL]
theorem sumL_bound {α : Type} (f : α → Int) (B : Int) (l : List α) (h : ∀ x ∈ l, -B ≤ f x ∧ f x ≤ B) : -(B * (l.length : Int)) ≤ sumL f l ∧ sumL f l ≤ B * (l.length : Int) := by
  induction l with
  | nil => simp [sumL]
  | cons x xs ih =>
    have h1 := ih (fun y hy => h y (List.mem_cons_of_mem _ hy))
    have h2 := h x List.mem_cons_self
    simp only [sumL, List.length_cons]
    have e : B * ((xs.length + 1 : Nat) : Int) = B * (xs.length : Int) + B := by rw [Int.natCast_add, Int.mul_add]; simp
    omega
theorem sumL_congr {α : Type} (f g : α → Int) (l : List α) (h : ∀ x ∈ l, f x = g x) : sumL f l = sumL g l := by
  induction l with
  | nil => rfl
  | cons x xs ih => simp only [sumL, h x List.mem_cons_self, ih (fun y hy => h y (List.mem_cons_of_mem _ hy))]
/-- The first j elements as f says, the others as in s. -/
def mapTo (f : Nat → Int) (s : List Int) (j : Nat) : List Int := (List.range j).map f ++ s.drop j
theorem mapTo_length (f : Nat → Int) (s : List Int) (j : Nat) (h : j ≤ s.length) : (mapTo f s j).length = s.length := by simp [mapTo]; omega
theorem mapTo_set (f : Nat → Int) (s : List Int) (j : Nat) (h : j < s.length) : (mapTo f s j).set j (f j) = mapTo f s (j + 1) := by
  unfold mapTo
  rw [List.range_succ, List.map_append, List.set_append_right _ _ (by simp)]
  simp only [List.length_map, List.length_range, Nat.sub_self, List.map_cons, List.map_nil, List.append_assoc]
  congr 1
  rw [List.drop_eq_getElem_cons h]
  rfl
theorem mapTo_rd (f : Nat → Int) (s : List Int) (j : Nat) (h : j < s.length) : rd (mapTo f s j) (j : Int) = rd s (j : Int) := by
  unfold mapTo
  rw [rd_nat, rd_nat, List.getD_eq_getElem?_getD, List.getElem?_append_right (by simp), List.getD_eq_getElem?_getD]
  simp
theorem mapTo_all (f : Nat → Int) (s : List Int) : mapTo f s s.length = (List.range s.length).map f := by
  unfold mapTo
  rw [List.drop_length, List.append_nil]
theorem mapTo_set0 (f : Nat → Int) (c j : Nat) (h : j < c) : (mapTo f (List.replicate c 0) j).set j 0 = mapTo f (List.replicate c 0) j := by
  unfold mapTo
  rw [List.set_append_right _ _ (by simp)]
  simp only [List.length_map, List.length_range, Nat.sub_self]
  congr 1
  rw [List.drop_replicate]
  obtain ⟨d, e⟩ : ∃ d, c - j = d + 1 := ⟨c - j - 1, by omega⟩
  rw [e, List.replicate_succ]
  rfl
theorem rd_lt (l : List Int) (j : Nat) (h : j < l.length) : rd l (j : Int) = l[j] := by rw [rd_nat, List.getD_eq_getElem?_getD, List.getElem?_eq_getElem h]; rfl
theorem range_map_snoc {α : Type} (f : Nat → α) (j : Nat) : (List.range j).map f ++ [f j] = (List.range (j + 1)).map f := by rw [List.range_succ, List.map_append]; rfl
/-- The mean of vectors. -/
def meanOf (v : List (List Int)) : List Int := (List.range (v.getD 0 []).length).map fun (i : Nat) => rnd (sumL (fun x => rd x (i : Int)) v) (v.length : Int)
section
variable (v : List (List Int)) (c : Nat) (hv1 : 1 ≤ v.length) (hv : v.length ≤ 20000) (hc : ∀ x ∈ v, x.length = c) (hc64 : c ≤ 64) (hb : ∀ x ∈ v, ∀ y ∈ x, -1048576 ≤ y ∧ y ≤ 1048576)
include hv1 hv hc hc64 hb
theorem col_bound (i j : Nat) : -(1048576 * (j : Int)) ≤ sumL (fun x => rd x (i : Int)) (v.take j) ∧ sumL (fun x => rd x (i : Int)) (v.take j) ≤ 1048576 * (j : Int) := by
  have h1 := sumL_bound (fun x => rd x (i : Int)) 1048576 (v.take j) (fun x hx => rd_bound x 1048576 (by omega) (hb x (List.mem_of_mem_take hx)) i)
  have h2 : (v.take j).length ≤ j := List.length_take_le _ _
  omega
theorem zip_step (j : Nat) (h : j < v.length) : List.zipWith opAdd ((List.range c).map fun (i : Nat) => sumL (fun x => rd x (i : Int)) (v.take j)) v[j] = (List.range c).map fun (i : Nat) => sumL (fun x => rd x (i : Int)) (v.take (j + 1)) := by
  have hl := hc v[j] (List.getElem_mem h)
  apply List.ext_getElem
  · simp [hl]
  · intro i h1 h2
    have hi : i < c := by simpa using h2
    rw [List.getElem_zipWith, List.getElem_map, List.getElem_map, List.getElem_range, sumL_take _ _ _ h, rd_lt _ _ (by omega)]
    unfold opAdd
    have b1 := col_bound v c hv1 hv hc hc64 hb i j
    have b2 := hb v[j] (List.getElem_mem h) (v[j][i]'(by omega)) (List.getElem_mem _)
    rw [w64 (by omega) (by omega)]
theorem mean_ev : Ev (fun k => feature_mean.f k v) (meanOf v) := by
  have h0 : (v.getD 0 []).length = c := by
    rw [List.getD_eq_getElem?_getD, List.getElem?_eq_getElem (by omega)]
    exact hc _ (List.getElem_mem _)
  have e1 := up (fun j k => feature_mean.l1 k v (mapTo (fun (i : Nat) => rnd (sumL (fun x => rd x (i : Int)) v) (v.length : Int)) ((List.range c).map fun (i : Nat) => sumL (fun x => rd x (i : Int)) v) j) (c : Int) (j : Int)) (fun _ => meanOf v) c (by
      refine Ev.step (f := fun _ => some (meanOf v)) (fun k => ?_) (Ev.now _)
      simp only [feature_mean.l1]
      rw [if_neg (by omega)]
      have := mapTo_all (fun (i : Nat) => rnd (sumL (fun x => rd x (i : Int)) v) (v.length : Int)) ((List.range c).map fun (i : Nat) => sumL (fun x => rd x (i : Int)) v)
      rw [List.length_map, List.length_range] at this
      rw [this]
      unfold meanOf
      rw [h0]) (by
      rintro j hj ⟨K, ih⟩
      have hS : ((List.range c).map fun (i : Nat) => sumL (fun x => rd x (i : Int)) v).length = c := by simp
      have b := col_bound v c hv1 hv hc hc64 hb j v.length
      rw [List.take_length] at b
      have hr : rd ((List.range c).map fun (i : Nat) => sumL (fun x => rd x (i : Int)) v) (j : Int) = sumL (fun x => rd x (j : Int)) v := by
        rw [rd_lt _ _ (by omega), List.getElem_map, List.getElem_range]
      obtain ⟨K2, e2⟩ := rounded_ev (sumL (fun x => rd x (j : Int)) v) (v.length : Int) (by omega) (by omega) (by omega) (by omega) (by omega) (by omega)
      refine ⟨K + K2 + 1, fun k hk => ?_⟩
      obtain ⟨m, rfl⟩ : ∃ m, k = m + 1 := ⟨k - 1, by omega⟩
      have ih := ih m (by omega)
      have e2 := e2 m (by omega)
      dsimp only at ih e2 ⊢
      simp only [feature_mean.l1]
      rw [if_pos (by omega), if_pos (by omega), if_pos (by rw [mapTo_length _ _ _ (by omega)]; omega), mapTo_rd _ _ _ (by omega), hr, e2, Option.bind_some, Int.toNat_natCast, w64 (n := (j : Int) + 1) (by omega) (by omega)]
      rw [← mapTo_set _ _ _ (by omega)] at ih
      exact ih) 0 (by omega)
  have e0 := up (fun j k => feature_mean.l0 k v ((List.range c).map fun (i : Nat) => sumL (fun x => rd x (i : Int)) (v.take j)) v (v.length : Int) (j : Int)) (fun _ => meanOf v) v.length (by
      refine Ev.step (fun k => ?_) e1
      simp only [feature_mean.l0]
      rw [if_neg (by omega), List.take_length, List.length_map, List.length_range]
      rfl) (by
      rintro j hj ⟨K, ih⟩
      refine ⟨K + 1, fun k hk => ?_⟩
      obtain ⟨m, rfl⟩ : ∃ m, k = m + 1 := ⟨k - 1, by omega⟩
      have ih := ih m (by omega)
      dsimp only at ih ⊢
      have hl := hc v[j] (List.getElem_mem hj)
      simp only [feature_mean.l0]
      rw [if_pos (by omega), if_pos (by omega), if_pos (by omega), rd2_lt v j hj]
      unfold combined_165.f
      rw [if_pos (by simp [hl]; omega), Option.bind_some, zip_step v c hv1 hv hc hc64 hb j hj, w64 (n := (j : Int) + 1) (by omega) (by omega)]
      exact ih) 0 (by omega)
  refine Ev.congr (fun k => ?_) e0
  unfold feature_mean.f
  rw [rd2_zero, h0, if_pos (by omega), if_pos (by omega), if_pos (by omega), Int.toNat_natCast]
  have : (List.range c).map (fun (i : Nat) => sumL (fun x => rd x (i : Int)) (v.take 0)) = List.replicate c 0 := by
    apply List.ext_getElem
    · simp
    · intro i h1 h2
      simp [sumL]
  rw [this]
  rfl
theorem ref_mean_ev : Ev (fun k => earshotref03_mean.f k v) (meanOf v) := by
  have h0 : (v.getD 0 []).length = c := by
    rw [List.getD_eq_getElem?_getD, List.getElem?_eq_getElem (by omega)]
    exact hc _ (List.getElem_mem _)
  have e0 := up (fun j k => earshotref03_mean.l0 k v (mapTo (fun (i : Nat) => rnd (sumL (fun x => rd x (i : Int)) v) (v.length : Int)) (List.replicate c 0) j) (j : Int)) (fun _ => meanOf v) c (by
      refine Ev.step (f := fun _ => some (meanOf v)) (fun k => ?_) (Ev.now _)
      simp only [earshotref03_mean.l0]
      rw [if_neg (by rw [mapTo_length _ _ _ (by simp)]; simp)]
      have := mapTo_all (fun (i : Nat) => rnd (sumL (fun x => rd x (i : Int)) v) (v.length : Int)) (List.replicate c 0)
      rw [List.length_replicate] at this
      rw [this]
      unfold meanOf
      rw [h0]) (by
      intro j hj ih0
      have hR : (mapTo (fun (i : Nat) => rnd (sumL (fun x => rd x (i : Int)) v) (v.length : Int)) (List.replicate c 0) j).length = c := by rw [mapTo_length _ _ _ (by simp; omega)]; simp
      have e1 := up (fun t k => earshotref03_mean.l1 k v ((mapTo (fun (i : Nat) => rnd (sumL (fun x => rd x (i : Int)) v) (v.length : Int)) (List.replicate c 0) j).set j (sumL (fun x => rd x (j : Int)) (v.take t))) (j : Int) (t : Int)) (fun _ => meanOf v) v.length (by
        have b := col_bound v c hv1 hv hc hc64 hb j v.length
        rw [List.take_length] at b
        obtain ⟨K2, e2⟩ := round_ev (sumL (fun x => rd x (j : Int)) v) (v.length : Int) (by omega) (by omega) (by omega) (by omega) (by omega) (by omega)
        obtain ⟨K, ih⟩ := ih0
        refine ⟨K + K2 + 1, fun k hk => ?_⟩
        obtain ⟨m, rfl⟩ : ∃ m, k = m + 1 := ⟨k - 1, by omega⟩
        have ih := ih m (by omega)
        have e2 := e2 m (by omega)
        dsimp only at ih e2 ⊢
        simp only [earshotref03_mean.l1]
        rw [if_neg (by omega), if_pos (by omega), if_pos (by simp [hR]; omega), List.take_length, rd_set _ _ (by omega), e2, Option.bind_some, Int.toNat_natCast, w64 (n := (j : Int) + 1) (by omega) (by omega), List.set_set]
        rw [← mapTo_set _ _ _ (by simp; omega)] at ih
        exact ih) (by
        rintro t ht ⟨K, ih⟩
        refine ⟨K + 1, fun k hk => ?_⟩
        obtain ⟨m, rfl⟩ : ∃ m, k = m + 1 := ⟨k - 1, by omega⟩
        have ih := ih m (by omega)
        dsimp only at ih ⊢
        have hl := hc v[t] (List.getElem_mem ht)
        have b1 := col_bound v c hv1 hv hc hc64 hb j t
        have b2 := rd_bound v[t] 1048576 (by omega) (hb v[t] (List.getElem_mem ht)) (j : Int)
        simp only [earshotref03_mean.l1]
        rw [rd2_lt v t ht, if_pos (by omega), if_pos (by omega), if_pos (by simp [hR]; omega), if_pos (by omega), if_pos (by omega), rd_set _ _ (by omega), w64 (n := (t : Int) + 1) (by omega) (by omega), Int.toNat_natCast, List.set_set, w64 (by omega) (by omega)]
        rw [sumL_take _ _ _ ht] at ih
        exact ih) 0 (by omega)
      refine Ev.step (fun k => ?_) e1
      simp only [earshotref03_mean.l0]
      rw [if_pos (by omega)]
      simp only [List.take_zero, sumL]
      rw [mapTo_set0 _ _ _ hj]
      rfl) 0 (by omega)
  refine Ev.congr (fun k => ?_) e0
  unfold earshotref03_mean.f
  rw [rd2_zero, h0, if_pos (by omega), if_pos (by omega), if_pos (by omega), Int.toNat_natCast]
  rfl
end
/-- A vector of c components. -/
def Vec (c : Nat) (x : List Int) : Prop := x.length = c ∧ 1 ≤ c ∧ c ≤ 64 ∧ ∀ y ∈ x, -1048576 ≤ y ∧ y ≤ 1048576
/-- The distance of the first components. -/
def distTo (a b : List Int) : Nat → Int
  | 0 => 0
  | i + 1 => distTo a b i + (rd a (i : Int) - rd b (i : Int)) * (rd a (i : Int) - rd b (i : Int))
def dst (a b : List Int) : Int := distTo a b a.length
theorem sq_bound (a b : Int) (ha : -1048576 ≤ a ∧ a ≤ 1048576) (hb : -1048576 ≤ b ∧ b ≤ 1048576) : 0 ≤ (a - b) * (a - b) ∧ (a - b) * (a - b) ≤ 4398046511104 := by
  have h := mul_bound (a - b) (a - b) 2097152 2097152 (by omega) (by omega) (by omega) (by omega)
  refine ⟨?_, by omega⟩
  by_cases h0 : 0 ≤ a - b
  · exact Int.mul_nonneg h0 h0
  · exact Int.mul_nonneg_of_nonpos_of_nonpos (by omega) (by omega)
section
variable {c : Nat} {a b : List Int} (ha : Vec c a) (hb : Vec c b)
include ha hb
theorem dist_step (i : Nat) : 0 ≤ (rd a (i : Int) - rd b (i : Int)) * (rd a (i : Int) - rd b (i : Int)) ∧ (rd a (i : Int) - rd b (i : Int)) * (rd a (i : Int) - rd b (i : Int)) ≤ 4398046511104 :=
  sq_bound _ _ (rd_bound a 1048576 (by omega) ha.2.2.2 _) (rd_bound b 1048576 (by omega) hb.2.2.2 _)
theorem distTo_bound (i : Nat) : 0 ≤ distTo a b i ∧ distTo a b i ≤ 4398046511104 * (i : Int) := by
  induction i with
  | zero => simp [distTo]
  | succ i ih =>
    have h := dist_step ha hb i
    simp only [distTo]
    omega
theorem distTo_mono (i d : Nat) : distTo a b i ≤ distTo a b (i + d) := by
  induction d with
  | zero => exact Int.le_refl _
  | succ d ih =>
    have h := dist_step ha hb (i + d)
    rw [show i + (d + 1) = (i + d) + 1 by omega]
    simp only [distTo]
    omega
theorem dist_add (i : Nat) (hi : i < c) : wrap64 (distTo a b i + wrap64 (wrap64 (rd a (i : Int) - rd b (i : Int)) * wrap64 (rd a (i : Int) - rd b (i : Int)))) = distTo a b (i + 1) := by
  have h := dist_step ha hb i
  have h2 := distTo_bound ha hb i
  have h3 := rd_bound a 1048576 (by omega) ha.2.2.2 (i : Int)
  have h4 := rd_bound b 1048576 (by omega) hb.2.2.2 (i : Int)
  have h5 := ha.2.2.1
  rw [w64 (n := rd a (i : Int) - rd b (i : Int)) (by omega) (by omega), w64 (n := (rd a (i : Int) - rd b (i : Int)) * (rd a (i : Int) - rd b (i : Int))) (by omega) (by omega)]
  simp only [distTo]
  rw [w64 (by omega) (by omega)]
theorem dst_bound : 0 ≤ dst a b ∧ dst a b ≤ 281474976710656 := by
  have h := distTo_bound ha hb a.length
  have h1 := ha.1
  have h2 := ha.2.2.1
  unfold dst
  omega
theorem Distance_ev : Ev (fun k => earshotref03_Distance.f k a b) (dst a b) := by
  have l1 := ha.1
  have l2 := hb.1
  have l3 := ha.2.2.1
  have e := up (fun j k => earshotref03_Distance.l0 k a b (distTo a b j) (j : Int)) (fun _ => dst a b) c (by
      refine Ev.step (f := fun _ => some (dst a b)) (fun k => ?_) (Ev.now _)
      simp only [earshotref03_Distance.l0]
      rw [if_neg (by omega)]
      unfold dst
      rw [l1]) (by
      rintro j hj ⟨K, ih⟩
      refine ⟨K + 1, fun k hk => ?_⟩
      obtain ⟨m, rfl⟩ : ∃ m, k = m + 1 := ⟨k - 1, by omega⟩
      have ih := ih m (by omega)
      dsimp only at ih ⊢
      simp only [earshotref03_Distance.l0]
      rw [if_pos (by omega), if_pos (by omega), if_pos (by omega), dist_add ha hb j hj, w64 (n := (j : Int) + 1) (by omega) (by omega)]
      exact ih) 0 (by omega)
  exact e
end
/-- The nearest one of the first codewords, and its distance. -/
def nearTo (v : List Int) (book : List (List Int)) : Nat → Int × Int
  | 0 => (-1, 4611686018427387904)
  | j + 1 => if dst v (book.getD j []) < (nearTo v book j).2 then ((j : Int), dst v (book.getD j [])) else nearTo v book j
def near (v : List Int) (book : List (List Int)) : Int × Int := nearTo v book book.length
section
variable {c : Nat} {v : List Int} {book : List (List Int)} (hv : Vec c v) (hb : ∀ x ∈ book, Vec c x)
include hv hb
theorem book_get (j : Nat) (hj : j < book.length) : Vec c (book.getD j []) := by
  rw [List.getD_eq_getElem?_getD, List.getElem?_eq_getElem hj]
  exact hb _ (List.getElem_mem hj)
theorem nearTo_ok : ∀ j, 1 ≤ j → j ≤ book.length → 0 ≤ (nearTo v book j).1 ∧ (nearTo v book j).1 < (j : Int) ∧ (nearTo v book j).2 = dst v (book.getD (nearTo v book j).1.toNat []) := by
  intro j
  induction j with
  | zero => intro h; omega
  | succ j ih =>
    intro _ hj
    have hB := dst_bound hv (book_get hv hb j (by omega))
    simp only [nearTo]
    by_cases h : dst v (book.getD j []) < (nearTo v book j).2
    · rw [if_pos h]
      exact ⟨by omega, by show (j : Int) < ((j + 1 : Nat) : Int); omega, by simp⟩
    · rw [if_neg h]
      by_cases h0 : j = 0
      · subst h0
        exact absurd (show dst v (book.getD 0 []) < (nearTo v book 0).2 by simp only [nearTo]; omega) h
      · have := ih (by omega) (by omega)
        exact ⟨this.1, by omega, this.2.2⟩
theorem nearTo_least : ∀ j, j ≤ book.length → ∀ i, i < j → (nearTo v book j).2 ≤ dst v (book.getD i []) := by
  intro j
  induction j with
  | zero => intro _ i hi; omega
  | succ j ih =>
    intro hj i hi
    simp only [nearTo]
    by_cases h : dst v (book.getD j []) < (nearTo v book j).2
    · rw [if_pos h]
      by_cases e : i = j
      · subst e; exact Int.le_refl _
      · have := ih (by omega) i (by omega)
        show dst v (book.getD j []) ≤ _
        omega
    · rw [if_neg h]
      by_cases e : i = j
      · subst e; omega
      · exact ih (by omega) i (by omega)
theorem nearTo_range (j : Nat) (hj : j ≤ book.length) : 0 ≤ (nearTo v book j).2 ∧ (nearTo v book j).2 ≤ 4611686018427387904 := by
  by_cases h0 : j = 0
  · subst h0; simp [nearTo]
  · have h := nearTo_ok hv hb j (by omega) hj
    have h2 := dst_bound hv (book_get hv hb (nearTo v book j).1.toNat (by omega))
    omega
theorem near_row (hbl : book.length ≤ 1000000) (j : Nat) (hj : j < book.length) (R : Int × Int)
    (h : Ev (fun k => feature_nearest.l0 k v (nearTo v book (j + 1)).1 (nearTo v book (j + 1)).2 book (book.length : Int) ((j + 1 : Nat) : Int)) R) :
    ∀ d i : Nat, i + d = c → (i = 0 ∨ distTo v (book.getD j []) i < (nearTo v book j).2) →
      Ev (fun k => feature_nearest.l1 k v (nearTo v book j).1 (nearTo v book j).2 (j : Int) (book.getD j []) (distTo v (book.getD j []) i) book (book.length : Int) (j : Int) (c : Int) (i : Int)) R := by
  have hc := book_get hv hb j hj
  have l1 := hv.1
  have l2 := hc.1
  have l3 := hv.2.1
  have l4 := hv.2.2.1
  intro d
  induction d with
  | zero =>
    intro i hi hlt
    obtain rfl : i = c := by omega
    have hlt2 : dst v (book.getD j []) < (nearTo v book j).2 := by unfold dst; rw [l1]; rcases hlt with h | h; omega; exact h
    obtain ⟨K, ih⟩ := h
    refine ⟨K + 1, fun k hk => ?_⟩
    obtain ⟨m, rfl⟩ : ∃ m, k = m + 1 := ⟨k - 1, by omega⟩
    have ih := ih m (by omega)
    dsimp only at ih ⊢
    simp only [feature_nearest.l1]
    rw [if_neg (by omega), w64 (n := (j : Int) + 1) (by omega) (by omega)]
    simp only [nearTo] at ih
    rw [if_pos hlt2] at ih
    unfold dst at ih
    rw [l1] at ih
    exact ih
  | succ d ihd =>
    intro i hi hlt
    have hadd := dist_add hv hc i (by omega)
    by_cases hge : distTo v (book.getD j []) (i + 1) ≥ (nearTo v book j).2
    · have hm := distTo_mono hv hc (i + 1) d
      have hnl : ¬ dst v (book.getD j []) < (nearTo v book j).2 := by
        unfold dst
        rw [l1, show c = (i + 1) + d by omega]
        omega
      obtain ⟨K, ih⟩ := h
      refine ⟨K + 1, fun k hk => ?_⟩
      obtain ⟨m, rfl⟩ : ∃ m, k = m + 1 := ⟨k - 1, by omega⟩
      have ih := ih m (by omega)
      dsimp only at ih ⊢
      simp only [feature_nearest.l1]
      rw [hadd, if_pos (by omega), if_pos (by omega), if_pos (by omega), if_pos (by omega), if_pos hge, w64 (n := (j : Int) + 1) (by omega) (by omega)]
      simp only [nearTo] at ih
      rw [if_neg hnl] at ih
      exact ih
    · obtain ⟨K, ih⟩ := ihd (i + 1) (by omega) (.inr (by omega))
      refine ⟨K + 1, fun k hk => ?_⟩
      obtain ⟨m, rfl⟩ : ∃ m, k = m + 1 := ⟨k - 1, by omega⟩
      have ih := ih m (by omega)
      dsimp only at ih ⊢
      simp only [feature_nearest.l1]
      rw [hadd, if_pos (by omega), if_pos (by omega), if_pos (by omega), if_pos (by omega), if_neg hge, w64 (n := (i : Int) + 1) (by omega) (by omega)]
      exact ih
theorem nearest_ev (hbl : book.length ≤ 1000000) : Ev (fun k => feature_nearest.f k v book) (near v book) := by
  have e := up (fun j k => feature_nearest.l0 k v (nearTo v book j).1 (nearTo v book j).2 book (book.length : Int) (j : Int)) (fun _ => near v book) book.length (by
      refine Ev.step (f := fun _ => some (near v book)) (fun k => ?_) (Ev.now _)
      simp only [feature_nearest.l0]
      rw [if_neg (by omega)]
      rfl) (by
      intro j hj ih
      obtain ⟨K, e1⟩ := near_row hv hb hbl j hj (near v book) ih c 0 (by omega) (.inl rfl)
      refine ⟨K + 1, fun k hk => ?_⟩
      obtain ⟨m, rfl⟩ : ∃ m, k = m + 1 := ⟨k - 1, by omega⟩
      have e1 := e1 m (by omega)
      dsimp only at e1 ⊢
      simp only [feature_nearest.l0]
      rw [if_pos (by omega), if_pos (by omega), if_pos (by omega), rd2_nat, (book_get hv hb j hj).1]
      exact e1) 0 (by omega)
  exact e
theorem ref_nearest_ev (hbl : book.length ≤ 1000000) (hb1 : 1 ≤ book.length) : Ev (fun k => earshotref03_Nearest.f k v book) (near v book).1 := by
  have hvl := hv.2.2.1
  have e := up (fun j k => if j = 0 then some (near v book).1 else earshotref03_Nearest.l0 k v book (nearTo v book j).1 (j : Int)) (fun _ => (near v book).1) book.length (by
      refine Ev.step (f := fun _ => some (near v book).1) (fun k => ?_) (Ev.now _)
      rw [if_neg (by omega)]
      simp only [earshotref03_Nearest.l0]
      rw [if_neg (by omega)]
      rfl) (by
      rintro j hj ⟨K, ih⟩
      by_cases h0 : j = 0
      · exact ⟨0, fun k _ => by dsimp only; rw [if_pos h0]⟩
      · have hok := nearTo_ok hv hb j (by omega) (by omega)
        have v2 := book_get hv hb (nearTo v book j).1.toNat (by omega)
        obtain ⟨K1, e1⟩ := Distance_ev hv (book_get hv hb j hj)
        obtain ⟨K2, e2⟩ := Distance_ev hv v2
        refine ⟨K + K1 + K2 + 1, fun k hk => ?_⟩
        obtain ⟨m, rfl⟩ : ∃ m, k = m + 1 := ⟨k - 1, by omega⟩
        have ih := ih m (by omega)
        have e1 := e1 m (by omega)
        have e2 := e2 m (by omega)
        dsimp only at ih e1 e2 ⊢
        rw [if_neg (by omega)] at ih
        rw [if_neg h0]
        simp only [earshotref03_Nearest.l0]
        have hi : (nearTo v book j).1 = (((nearTo v book j).1.toNat : Nat) : Int) := by omega
        rw [if_pos (by omega), if_pos (by omega), rd2_nat, e1, Option.bind_some, if_pos (by omega), if_pos (by omega), hi, rd2_nat, e2, Option.bind_some, ← hi, w64 (n := (j : Int) + 1) (by omega) (by omega)]
        simp only [nearTo] at ih
        rw [hok.2.2] at ih
        by_cases hlt : dst v (book.getD j []) < dst v (book.getD (nearTo v book j).1.toNat [])
        · rw [if_pos hlt]; rw [if_pos hlt] at ih; exact ih
        · rw [if_neg hlt]; rw [if_neg hlt] at ih; exact ih) 1 hb1
  obtain ⟨K, e⟩ := e
  refine ⟨K, fun k hk => ?_⟩
  have e := e k hk
  dsimp only at e ⊢
  rw [if_neg (by omega)] at e
  unfold earshotref03_Nearest.f
  have h1 : (nearTo v book 1).1 = 0 := by
    have := nearTo_ok hv hb 1 (by omega) hb1
    omega
  rw [h1] at e
  exact e
theorem near_ok (hb1 : 1 ≤ book.length) : 0 ≤ (near v book).1 ∧ (near v book).1 < (book.length : Int) ∧ (near v book).2 = dst v (book.getD (near v book).1.toNat []) := nearTo_ok hv hb book.length hb1 (Nat.le_refl _)
theorem near_least (i : Nat) (hi : i < book.length) : (near v book).2 ≤ dst v (book.getD i []) := nearTo_least hv hb book.length (Nat.le_refl _) i hi
theorem near_range (hb1 : 1 ≤ book.length) : 0 ≤ (near v book).2 ∧ (near v book).2 ≤ 281474976710656 := by
  have h := near_ok hv hb hb1
  have := dst_bound hv (book_get hv hb (near v book).1.toNat (by omega))
  omega
end
/-- A codebook. -/
def bookOK (b : List (List Int)) : Bool := decide (1 ≤ b.length) && decide (b.length ≤ 256) && vecsOK b
/-- The error of vectors and a codebook. -/
def fitB (v b : List (List Int)) : Bool := vecsOK v && bookOK b && (v.length == 0 || (v.getD 0 []).length == (b.getD 0 []).length)
def fitsOf (v b : List (List Int)) : Int := if v.length > 10000 then 5 else errB (fitB v b)
theorem wrong_zero' (v : List (List Int)) (h : wrongOf v = 0) : v.length ≤ 10000 ∧ vecsOK v = true := by
  unfold wrongOf at h
  split at h
  · omega
  · refine ⟨by omega, ?_⟩
    cases hv : vecsOK v with
    | true => rfl
    | false => rw [hv] at h; cases h
theorem vecsOK_Vec (v : List (List Int)) (h : vecsOK v = true) : ∀ x ∈ v, Vec (v.getD 0 []).length x := by
  intro x hx
  have h1 := List.all_eq_true.1 h x hx
  simp only [vecOne, Bool.and_eq_true, beq_iff_eq, decide_eq_true_eq] at h1
  exact ⟨h1.1.1.1, by omega, by omega, (allIn_iff _ _ _).1 h1.2⟩
end Go.Proofs.YtdlbmbijobcljaaDoor.Pure

namespace Go.Proofs.YtdlbmbijobcljaaDoor.X
open Go.RowKit Go.Proofs.YtdlbmbijobcljaaDoorW.PrintWords Go.Proofs.YtdlbmbijobcljaaDoorW.PrintLast Go.Proofs.YtdlbmbijobcljaaDoorW.PrintMore
attribute [local go_sem] max2_int min2_int max_two min_two max_three min_three max_four min_four   -- for this text's walks alone
set_option linter.unusedVariables false
set_option linter.unusedSimpArgs false
/-! ### feature_Quantize: function 38 -/
def feature_Quantize.l0 : Nat → List (List Int) → List Int → List (List Int) → Int → Int → Option (List Int × Int)
 | 0, _, _, _, _, _ => none
 | k + 1, x1, x7, x18, x19, x20 => if x20 < x19 then (if 0 ≤ x20 then (if x20 < (x18.length : Int) then ((feature_nearest.f k (rd_L2 x18 x20) x1).bind fun bt103 => (if x7.length < 17592186044416 then (feature_Quantize.l0 k x1 (x7 ++ [bt103.1]) x18 x19 (wrap64 (x20 + 1))) else (none))) else (none)) else (none)) else (some (x7, 0))
def feature_Quantize.f (k : Nat) (l0 : List (List Int)) (l1 : List (List Int)) : Option (List Int × Int) := (feature_fits.f k l0 l1).bind fun t101 => (if t101 = 0 then (feature_Quantize.l0 k l1 ([] : List Int) l0 (l0.length : Int) 0) else (some (([] : List Int), t101)))
theorem feature_Quantize.mono_l : ∀ k, (∀ y0 y1 y2 y3 y4, LeO (feature_Quantize.l0 k y0 y1 y2 y3 y4) (feature_Quantize.l0 (k + 1) y0 y1 y2 y3 y4))
 | 0 => fun _ _ _ _ _ r h => by simp [feature_Quantize.l0] at h
 | k + 1 => by
  have ih0 := feature_Quantize.mono_l k
  ·intro y0 y1 y2 y3 y4
   unfold feature_Quantize.l0
   repeat' first
   | (with_reducible exact ih0 _ _ _ _ _)
   | (with_reducible exact feature_fits.mono _ _ _)
   | (with_reducible exact feature_nearest.mono _ _ _)
   | (with_reducible exact LeO.refl _)
   | (with_reducible exact LeO.none _)
   | (with_reducible refine LeO.ite ?_ ?_)
   | (with_reducible refine LeO.bind ?_ (fun _ => ?_))
   | exact ih0 _ _ _ _ _
   | exact feature_fits.mono _ _ _
   | exact feature_nearest.mono _ _ _
   | exact LeO.none _
   | refine LeO.ite ?_ ?_
   | refine LeO.bind ?_ (fun _ => ?_)
theorem feature_Quantize.mono : ∀ a0 a1 k, LeO (feature_Quantize.f k a0 a1) (feature_Quantize.f (k + 1) a0 a1) := by
 intro a0 a1 k
 have ih0 := feature_Quantize.mono_l k
 unfold feature_Quantize.f
 repeat' first
   | (with_reducible exact ih0 _ _ _ _ _)
   | (with_reducible exact feature_fits.mono _ _ _)
   | (with_reducible exact feature_nearest.mono _ _ _)
   | (with_reducible exact LeO.refl _)
   | (with_reducible exact LeO.none _)
   | (with_reducible refine LeO.ite ?_ ?_)
   | (with_reducible refine LeO.bind ?_ (fun _ => ?_))
   | exact ih0 _ _ _ _ _
   | exact feature_fits.mono _ _ _
   | exact feature_nearest.mono _ _ _
   | exact LeO.none _
   | refine LeO.ite ?_ ?_
   | refine LeO.bind ?_ (fun _ => ?_)
set_option maxHeartbeats 8000000 in
set_option maxRecDepth 100000 in
theorem feature_Quantize.calls (k : Nat) (A0 : Option Addr) (c0 : Nat) (l0 : List (List Int)) (A1 : Option Addr) (c1 : Nat) (l1 : List (List Int)) (r1 : List Int) (r2 : Int) (w : World) (hr0 : Kd.C (Kd.slice 3 (Kd.int .i64)) w A0 l0.length l0) (hc0 : l0.length ≤ c0) (hr1 : Kd.C (Kd.slice 3 (Kd.int .i64)) w A1 l1.length l1) (hc1 : l1.length ≤ c1) (h : feature_Quantize.f k l0 l1 = some (r1, r2)) :
  Calls Tryd.prog 38 #[.slice A0 l0.length c0, .slice A1 l1.length c1] w fun e w' => ∃ v0_ : Value, e = .returned (.tuple #[v0_, .int .i64 r2]) ∧ Kd.R (Kd.int .i64) 3 w' w.heap.size (fun _ => True) v0_ r1 ∧ Below w.heap.size w w' := by
 have HR0 := Aside0.mk hr0
 have HC0 := Aside0.mk hc0
 clear hr0 hc0
 have HR1 := Aside0.mk hr1
 have HC1 := Aside0.mk hc1
 clear hr1 hc1
 have HB := Aside0.mk (Below.refl w.heap.size w)
 have H : ((feature_fits.f k l0 l1).bind fun t101 => (if t101 = 0 then (feature_Quantize.l0 k l1 ([] : List Int) l0 (l0.length : Int) 0) else (some (([] : List Int), t101)))) = some (r1, r2) := h
 clear h
 replace H := Option.bind_eq_some_iff.mp H
 obtain ⟨t101, A30, H⟩ := H
 try dsimp only at H
 have A3 := Aside0.mk A30
 clear A30
 by_cases c4 : t101 = 0
 ·rw [if_pos c4] at H
  have c4b0 : (t101 == 0) = true := beq_iff_eq.mpr c4
  have c4b1 : (t101 != 0) = false := bne_eq_false_iff_eq.mpr c4
  clear c4
  have H' := Aside0.mk H
  clear H
  go_enter Tryd.func38, Tryd.ntmps38
  go_wp2_with (first | ((with_reducible refine gate_callee (f := 100) rfl ?_); refine goesL_ (some 14) rfl rfl Tryd.func100 (by kernel_rfl) rfl #[.slice A0 l0.length c0, .slice A1 l1.length c1] rfl tL ?_; (with_reducible refine (feature_fits.calls k _ _ l0 _ _ l1 t101 _ ?side1 ?side2 ?side3 ?side4 A3.out).mono ?_); (case side1 => exact tC HR0.out); (case side2 => exact HC0.out); (case side3 => exact tC HR1.out); (case side4 => exact HC1.out); rintro e w5 ⟨rfl, hb⟩; refine ⟨_, rfl, ?_⟩; have n0_ := Aside0.mk (below_step tB hb); clear HB; have HB := n0_; clear n0_; (try clear hb); (try clear hb2); (try clear hk); (try clear hi)))
  go_loopg [7, 20] k (fun kq v7 v20 w' => ∃ (x7_1 : List Int) (x20_1 : Int), v20 = .int .i64 x20_1 ∧ Aside0 (feature_Quantize.l0 kq l1 x7_1 l0 (l0.length : Int) x20_1 = some (r1, r2)) ∧ Aside0 (kq ≤ k) ∧ Aside0 (Kd.R (Kd.int .i64) 3 w' w.heap.size (fun _ => True) v7 x7_1) ∧ Aside0 (Below w.heap.size w w'))
  case atStart => exact ⟨(([] : List Int)), (0), (by first | rfl | (simp; done) | (simp only [i64_w]; done) | (simp [*]; done)), H', ⟨Nat.le_refl _⟩, ⟨by first | exact Kd.R_nil _ _ _ _ _ | exact Kd.N_nil _ _ _ _ _ | exact Kd.V_nil _ _ _ _ _ | exact Kd.Q_nil _ _ _ _ _ | exact Kd.S_nil _ _ _ _ _⟩, ⟨tB⟩⟩
  case round =>
   clear H'
   try clear c1
   try clear p2
   try clear c3
   try clear c4
   try clear c4b0
   try clear c4b1
   obtain ⟨x7_1, x20_1, rfl, HA, HK1, HO_7, HB⟩ := hrel
   cases gk with
   | zero => exact absurd HA.out (by simp [feature_Quantize.l0])
   | succ k1 =>
    have H := HA.out
    clear HA
    simp only [feature_Quantize.l0] at H
    by_cases c6 : x20_1 < (l0.length : Int)
    ·rw [if_pos c6] at H
     have c6b0 := decide_eq_true c6
     clear c6
     by_cases c7 : 0 ≤ x20_1
     ·rw [if_pos c7] at H
      have c7b0 := decide_eq_true c7
      clear c7
      by_cases c8 : x20_1 < (l0.length : Int)
      ·rw [if_pos c8] at H
       have c8b0 := decide_eq_true c8
       clear c8
       replace H := Option.bind_eq_some_iff.mp H
       obtain ⟨⟨t103, t104⟩, A90, H⟩ := H
       try dsimp only at H
       have A9 := Aside0.mk A90
       clear A90
       by_cases c10 : x7_1.length < 17592186044416
       ·rw [if_pos c10] at H
        have LMc10 := Aside0.mk c10
        clear c10
        obtain ⟨y105, hy105⟩ : ∃ y_ : List Int, y_ = (x7_1 ++ [t103]) := ⟨_, rfl⟩
        replace H : (feature_Quantize.l0 k1 l1 y105 l0 (l0.length : Int) (wrap64 (x20_1 + 1))) = some (r1, r2) := by first | (rw [hy105]; with_reducible exact H) | (have H2_ := (Option.bind_some _ _).symm.trans H; rw [hy105]; with_reducible exact H2_) | (have H2_ := (Option.bind_some _ _).symm.trans H; with_reducible exact H2_) | with_reducible exact H | (rw [hy105]; exact H) | exact H
        have Ny105 := Aside0.mk hy105
        clear hy105
        have H' := Aside0.mk H
        clear H
        have p102 : 0 ≤ (x20_1 : Int) := of_decide_eq_true tA
        have q102 : x20_1 < (l0.length : Int) := of_decide_eq_true tA
        obtain ⟨ad102, A102_0, c102_0, e102, hx102_0, hl102_0, hi102_0⟩ := at_L2 HR0.out x20_1 p102 q102
        cases e102
        replace hx102_0 := (HB.out.cell (World.block_lt_of_cell? w _ hx102_0)).trans hx102_0
        have HR102_0 := Aside0.mk hi102_0
        have HC102_0 := Aside0.mk hl102_0
        clear hi102_0 hl102_0
        replace p102 := eq_true p102
        replace q102 := eq_true q102
        go_wp2_with (first | ((with_reducible refine gate_callee (f := 101) rfl ?_); refine goesL_ (some 27) rfl rfl Tryd.func101 (by kernel_rfl) rfl #[.slice A102_0 (rd_L2 l0 x20_1).length c102_0, .slice A1 l1.length c1] rfl tL ?_; (with_reducible refine (feature_nearest.calls k1 _ _ (rd_L2 l0 x20_1) _ _ l1 t103 t104 _ ?side1 ?side2 ?side3 ?side4 A9.out).mono ?_); (case side1 => exact tC (Kd.C_below HR102_0.out HB.out)); (case side2 => exact HC102_0.out); (case side3 => exact tC (Kd.C_below HR1.out HB.out)); (case side4 => exact HC1.out); rintro e w' ⟨rfl, ⟨nd, rfl⟩⟩; refine ⟨_, rfl, ?_⟩) | ((with_reducible refine gate_builtin (b := .append) (xs := #[.tmp 30, .tmp 32]) rfl ?_); at_builtin; refine Kd.R_append (Kd.int .i64) (w0 := w) w.heap.size rfl (.tmp 30) (.tmp 32) 22 3 (.int .i64 0) 8 rfl Tryd.underlying22 info3 rfl (by decide) (by omega) u7 x7_1 t103 [.int .i64 t103] (fun _ => True) (fun _ => False) rfl rfl ?aP (fun _ hk => hk.elim) ?aF ?aO ?aB ?aS ?aL ?_; (case aP => exact rfl); (case aB => exact tB); (case aF => exact (fun _ _ => trivial)); (case aO => exact (tR HO_7.out)); (case aS => exact (below_size tB)); (case aL => have := LMc10.out; omega); intro v106 w11 ho hb hg hat; rw [← Ny105.out] at ho; have n0_ := Aside0.mk (hb); have n1_ := Aside0.mk (ho); clear HB; clear HO_7; have HB := n0_; have HO107 := n1_; clear n0_ n1_; clear ho hb hg hat))
        go_roundg k1
        case measure => have := HK1.out; omega
        case rel => exact ⟨(y105), (wrap64 (x20_1 + 1)), (by first | rfl | (simp; done) | (simp only [i64_w]; done) | (simp [*]; done)), H', ⟨by have := HK1.out; omega⟩, ⟨tR HO107.out⟩, ⟨tB⟩⟩
       ·rw [if_neg c10] at H
        exact absurd H (by simp)
      ·rw [if_neg c8] at H
       exact absurd H (by simp)
     ·rw [if_neg c7] at H
      exact absurd H (by simp)
    ·rw [if_neg c6] at H
     have c6b0 := decide_eq_false c6
     clear c6
     simp only [Option.some.injEq, Prod.mk.injEq] at H
     obtain ⟨rfl, rfl⟩ := H
     go_wp2
     go_ret2
     exact ⟨_, by first | rfl | (simp [errW_none, errW_some] <;> rfl) | (simp [*, errW_none, errW_some] <;> rfl), tR HO_7.out, tB⟩
 ·rw [if_neg c4] at H
  have c4b0 : (t101 == 0) = false := beq_eq_false_iff_ne.mpr c4
  have c4b1 : (t101 != 0) = true := bne_iff_ne.mpr c4
  simp only [Option.some.injEq, Prod.mk.injEq] at H
  obtain ⟨rfl, rfl⟩ := H
  go_enter Tryd.func38, Tryd.ntmps38
  go_wp2_with (first | ((with_reducible refine gate_callee (f := 100) rfl ?_); refine goesL_ (some 14) rfl rfl Tryd.func100 (by kernel_rfl) rfl #[.slice A0 l0.length c0, .slice A1 l1.length c1] rfl tL ?_; (with_reducible refine (feature_fits.calls k _ _ l0 _ _ l1 t101 _ ?side1 ?side2 ?side3 ?side4 A3.out).mono ?_); (case side1 => exact tC HR0.out); (case side2 => exact HC0.out); (case side3 => exact tC HR1.out); (case side4 => exact HC1.out); rintro e w12 ⟨rfl, hb⟩; refine ⟨_, rfl, ?_⟩; have n0_ := Aside0.mk (below_step tB hb); clear HB; have HB := n0_; clear n0_; (try clear hb); (try clear hb2); (try clear hk); (try clear hi)))
  go_ret2
  exact ⟨_, by first | rfl | (simp [errW_none, errW_some] <;> rfl) | (simp [*, errW_none, errW_some] <;> rfl), by first | exact Kd.R_nil _ _ _ _ _ | exact Kd.N_nil _ _ _ _ _ | exact Kd.V_nil _ _ _ _ _ | exact Kd.Q_nil _ _ _ _ _ | exact Kd.S_nil _ _ _ _ _, tB⟩

/-! ### feature_Cost: function 62 -/
def feature_Cost.l0 : Nat → List (List Int) → Int → List (List Int) → Int → Int → Option (Int × Int)
 | 0, _, _, _, _, _ => none
 | k + 1, x1, x7, x18, x19, x20 => if x20 < x19 then (if 0 ≤ x20 then (if x20 < (x18.length : Int) then ((feature_nearest.f k (rd_L2 x18 x20) x1).bind fun bt103 => (feature_Cost.l0 k x1 (wrap64 (x7 + bt103.2)) x18 x19 (wrap64 (x20 + 1)))) else (none)) else (none)) else (some (x7, 0))
def feature_Cost.f (k : Nat) (l0 : List (List Int)) (l1 : List (List Int)) : Option (Int × Int) := (feature_fits.f k l0 l1).bind fun t101 => (if t101 = 0 then (feature_Cost.l0 k l1 0 l0 (l0.length : Int) 0) else (some (0, t101)))
theorem feature_Cost.mono_l : ∀ k, (∀ y0 y1 y2 y3 y4, LeO (feature_Cost.l0 k y0 y1 y2 y3 y4) (feature_Cost.l0 (k + 1) y0 y1 y2 y3 y4))
 | 0 => fun _ _ _ _ _ r h => by simp [feature_Cost.l0] at h
 | k + 1 => by
  have ih0 := feature_Cost.mono_l k
  ·intro y0 y1 y2 y3 y4
   unfold feature_Cost.l0
   repeat' first
   | (with_reducible exact ih0 _ _ _ _ _)
   | (with_reducible exact feature_fits.mono _ _ _)
   | (with_reducible exact feature_nearest.mono _ _ _)
   | (with_reducible exact LeO.refl _)
   | (with_reducible exact LeO.none _)
   | (with_reducible refine LeO.ite ?_ ?_)
   | (with_reducible refine LeO.bind ?_ (fun _ => ?_))
   | exact ih0 _ _ _ _ _
   | exact feature_fits.mono _ _ _
   | exact feature_nearest.mono _ _ _
   | exact LeO.none _
   | refine LeO.ite ?_ ?_
   | refine LeO.bind ?_ (fun _ => ?_)
theorem feature_Cost.mono : ∀ a0 a1 k, LeO (feature_Cost.f k a0 a1) (feature_Cost.f (k + 1) a0 a1) := by
 intro a0 a1 k
 have ih0 := feature_Cost.mono_l k
 unfold feature_Cost.f
 repeat' first
   | (with_reducible exact ih0 _ _ _ _ _)
   | (with_reducible exact feature_fits.mono _ _ _)
   | (with_reducible exact feature_nearest.mono _ _ _)
   | (with_reducible exact LeO.refl _)
   | (with_reducible exact LeO.none _)
   | (with_reducible refine LeO.ite ?_ ?_)
   | (with_reducible refine LeO.bind ?_ (fun _ => ?_))
   | exact ih0 _ _ _ _ _
   | exact feature_fits.mono _ _ _
   | exact feature_nearest.mono _ _ _
   | exact LeO.none _
   | refine LeO.ite ?_ ?_
   | refine LeO.bind ?_ (fun _ => ?_)
set_option maxHeartbeats 8000000 in
set_option maxRecDepth 100000 in
theorem feature_Cost.calls (k : Nat) (A0 : Option Addr) (c0 : Nat) (l0 : List (List Int)) (A1 : Option Addr) (c1 : Nat) (l1 : List (List Int)) (r1 : Int) (r2 : Int) (w : World) (hr0 : Kd.C (Kd.slice 3 (Kd.int .i64)) w A0 l0.length l0) (hc0 : l0.length ≤ c0) (hr1 : Kd.C (Kd.slice 3 (Kd.int .i64)) w A1 l1.length l1) (hc1 : l1.length ≤ c1) (h : feature_Cost.f k l0 l1 = some (r1, r2)) :
  Calls Tryd.prog 62 #[.slice A0 l0.length c0, .slice A1 l1.length c1] w fun e w' => e = .returned (.tuple #[.int .i64 r1, .int .i64 r2]) ∧ Below w.heap.size w w' := by
 have HR0 := Aside0.mk hr0
 have HC0 := Aside0.mk hc0
 clear hr0 hc0
 have HR1 := Aside0.mk hr1
 have HC1 := Aside0.mk hc1
 clear hr1 hc1
 have HB := Aside0.mk (Below.refl w.heap.size w)
 have H : ((feature_fits.f k l0 l1).bind fun t101 => (if t101 = 0 then (feature_Cost.l0 k l1 0 l0 (l0.length : Int) 0) else (some (0, t101)))) = some (r1, r2) := h
 clear h
 replace H := Option.bind_eq_some_iff.mp H
 obtain ⟨t101, A30, H⟩ := H
 try dsimp only at H
 have A3 := Aside0.mk A30
 clear A30
 by_cases c4 : t101 = 0
 ·rw [if_pos c4] at H
  have c4b0 : (t101 == 0) = true := beq_iff_eq.mpr c4
  have c4b1 : (t101 != 0) = false := bne_eq_false_iff_eq.mpr c4
  clear c4
  have H' := Aside0.mk H
  clear H
  go_enter Tryd.func62, Tryd.ntmps62
  go_wp2_with (first | ((with_reducible refine gate_callee (f := 100) rfl ?_); refine goesL_ (some 14) rfl rfl Tryd.func100 (by kernel_rfl) rfl #[.slice A0 l0.length c0, .slice A1 l1.length c1] rfl tL ?_; (with_reducible refine (feature_fits.calls k _ _ l0 _ _ l1 t101 _ ?side1 ?side2 ?side3 ?side4 A3.out).mono ?_); (case side1 => exact tC HR0.out); (case side2 => exact HC0.out); (case side3 => exact tC HR1.out); (case side4 => exact HC1.out); rintro e w5 ⟨rfl, hb⟩; refine ⟨_, rfl, ?_⟩; have n0_ := Aside0.mk (below_step tB hb); clear HB; have HB := n0_; clear n0_; (try clear hb); (try clear hb2); (try clear hk); (try clear hi)))
  go_loopg [7, 20] k (fun kq v7 v20 w' => ∃ (x7_1 : Int) (x20_1 : Int), v7 = .int .i64 x7_1 ∧ v20 = .int .i64 x20_1 ∧ Aside0 (feature_Cost.l0 kq l1 x7_1 l0 (l0.length : Int) x20_1 = some (r1, r2)) ∧ Aside0 (kq ≤ k) ∧ Aside0 (Below w.heap.size w w'))
  case atStart => exact ⟨(0), (0), (by first | rfl | (simp; done) | (simp only [i64_w]; done) | (simp [*]; done)), (by first | rfl | (simp; done) | (simp only [i64_w]; done) | (simp [*]; done)), H', ⟨Nat.le_refl _⟩, ⟨tB⟩⟩
  case round =>
   clear H'
   try clear c1
   try clear p2
   try clear c4
   try clear c4b0
   try clear c4b1
   obtain ⟨x7_1, x20_1, rfl, rfl, HA, HK1, HB⟩ := hrel
   cases gk with
   | zero => exact absurd HA.out (by simp [feature_Cost.l0])
   | succ k1 =>
    have H := HA.out
    clear HA
    simp only [feature_Cost.l0] at H
    by_cases c6 : x20_1 < (l0.length : Int)
    ·rw [if_pos c6] at H
     have c6b0 := decide_eq_true c6
     clear c6
     by_cases c7 : 0 ≤ x20_1
     ·rw [if_pos c7] at H
      have c7b0 := decide_eq_true c7
      clear c7
      by_cases c8 : x20_1 < (l0.length : Int)
      ·rw [if_pos c8] at H
       have c8b0 := decide_eq_true c8
       clear c8
       replace H := Option.bind_eq_some_iff.mp H
       obtain ⟨⟨t103, t104⟩, A90, H⟩ := H
       try dsimp only at H
       have A9 := Aside0.mk A90
       clear A90
       have H' := Aside0.mk H
       clear H
       have p102 : 0 ≤ (x20_1 : Int) := of_decide_eq_true tA
       have q102 : x20_1 < (l0.length : Int) := of_decide_eq_true tA
       obtain ⟨ad102, A102_0, c102_0, e102, hx102_0, hl102_0, hi102_0⟩ := at_L2 HR0.out x20_1 p102 q102
       cases e102
       replace hx102_0 := (HB.out.cell (World.block_lt_of_cell? w _ hx102_0)).trans hx102_0
       have HR102_0 := Aside0.mk hi102_0
       have HC102_0 := Aside0.mk hl102_0
       clear hi102_0 hl102_0
       replace p102 := eq_true p102
       replace q102 := eq_true q102
       go_wp2_with (first | ((with_reducible refine gate_callee (f := 101) rfl ?_); refine goesL_ (some 27) rfl rfl Tryd.func101 (by kernel_rfl) rfl #[.slice A102_0 (rd_L2 l0 x20_1).length c102_0, .slice A1 l1.length c1] rfl tL ?_; (with_reducible refine (feature_nearest.calls k1 _ _ (rd_L2 l0 x20_1) _ _ l1 t103 t104 _ ?side1 ?side2 ?side3 ?side4 A9.out).mono ?_); (case side1 => exact tC (Kd.C_below HR102_0.out HB.out)); (case side2 => exact HC102_0.out); (case side3 => exact tC (Kd.C_below HR1.out HB.out)); (case side4 => exact HC1.out); rintro e w' ⟨rfl, ⟨nd, rfl⟩⟩; refine ⟨_, rfl, ?_⟩))
       go_roundg k1
       case measure => have := HK1.out; omega
       case rel => exact ⟨(wrap64 (x7_1 + t104)), (wrap64 (x20_1 + 1)), (by first | rfl | (simp; done) | (simp only [i64_w]; done) | (simp [*]; done)), (by first | rfl | (simp; done) | (simp only [i64_w]; done) | (simp [*]; done)), H', ⟨by have := HK1.out; omega⟩, ⟨tB⟩⟩
      ·rw [if_neg c8] at H
       exact absurd H (by simp)
     ·rw [if_neg c7] at H
      exact absurd H (by simp)
    ·rw [if_neg c6] at H
     have c6b0 := decide_eq_false c6
     clear c6
     simp only [Option.some.injEq, Prod.mk.injEq] at H
     obtain ⟨rfl, rfl⟩ := H
     go_wp2
     go_ret2
     exact ⟨by first | rfl | (simp [errW_none, errW_some] <;> rfl) | (simp [*, errW_none, errW_some] <;> rfl), tB⟩
 ·rw [if_neg c4] at H
  have c4b0 : (t101 == 0) = false := beq_eq_false_iff_ne.mpr c4
  have c4b1 : (t101 != 0) = true := bne_iff_ne.mpr c4
  simp only [Option.some.injEq, Prod.mk.injEq] at H
  obtain ⟨rfl, rfl⟩ := H
  go_enter Tryd.func62, Tryd.ntmps62
  go_wp2_with (first | ((with_reducible refine gate_callee (f := 100) rfl ?_); refine goesL_ (some 14) rfl rfl Tryd.func100 (by kernel_rfl) rfl #[.slice A0 l0.length c0, .slice A1 l1.length c1] rfl tL ?_; (with_reducible refine (feature_fits.calls k _ _ l0 _ _ l1 t101 _ ?side1 ?side2 ?side3 ?side4 A3.out).mono ?_); (case side1 => exact tC HR0.out); (case side2 => exact HC0.out); (case side3 => exact tC HR1.out); (case side4 => exact HC1.out); rintro e w10 ⟨rfl, hb⟩; refine ⟨_, rfl, ?_⟩; have n0_ := Aside0.mk (below_step tB hb); clear HB; have HB := n0_; clear n0_; (try clear hb); (try clear hb2); (try clear hk); (try clear hi)))
  go_ret2
  exact ⟨by first | rfl | (simp [errW_none, errW_some] <;> rfl) | (simp [*, errW_none, errW_some] <;> rfl), tB⟩

/-! ### earshotref03_Cost: function 65 -/
def earshotref03_Cost.l0 : Nat → List (List Int) → List (List Int) → Int → Int → Option (Int)
 | 0, _, _, _, _ => none
 | k + 1, x0, x1, x5, x6 => if x6 < (x0.length : Int) then (if 0 ≤ x6 then ((earshotref03_Nearest.f k (rd_L2 x0 x6) x1).bind fun t103 => (if 0 ≤ t103 then (if t103 < (x1.length : Int) then ((earshotref03_Distance.f k (rd_L2 x0 x6) (rd_L2 x1 t103)).bind fun t105 => (earshotref03_Cost.l0 k x0 x1 (wrap64 (x5 + t105)) (wrap64 (x6 + 1)))) else (none)) else (none))) else (none)) else (some x5)
def earshotref03_Cost.f (k : Nat) (l0 : List (List Int)) (l1 : List (List Int)) : Option (Int) := earshotref03_Cost.l0 k l0 l1 0 0
theorem earshotref03_Cost.mono_l : ∀ k, (∀ y0 y1 y2 y3, LeO (earshotref03_Cost.l0 k y0 y1 y2 y3) (earshotref03_Cost.l0 (k + 1) y0 y1 y2 y3))
 | 0 => fun _ _ _ _ r h => by simp [earshotref03_Cost.l0] at h
 | k + 1 => by
  have ih0 := earshotref03_Cost.mono_l k
  ·intro y0 y1 y2 y3
   unfold earshotref03_Cost.l0
   repeat' first
   | (with_reducible exact ih0 _ _ _ _)
   | (with_reducible exact earshotref03_Distance.mono _ _ _)
   | (with_reducible exact earshotref03_Nearest.mono _ _ _)
   | (with_reducible exact LeO.refl _)
   | (with_reducible exact LeO.none _)
   | (with_reducible refine LeO.ite ?_ ?_)
   | (with_reducible refine LeO.bind ?_ (fun _ => ?_))
   | exact ih0 _ _ _ _
   | exact earshotref03_Distance.mono _ _ _
   | exact earshotref03_Nearest.mono _ _ _
   | exact LeO.none _
   | refine LeO.ite ?_ ?_
   | refine LeO.bind ?_ (fun _ => ?_)
theorem earshotref03_Cost.mono : ∀ a0 a1 k, LeO (earshotref03_Cost.f k a0 a1) (earshotref03_Cost.f (k + 1) a0 a1) := by
 intro a0 a1 k
 have ih0 := earshotref03_Cost.mono_l k
 unfold earshotref03_Cost.f
 repeat' first
   | (with_reducible exact ih0 _ _ _ _)
   | (with_reducible exact earshotref03_Distance.mono _ _ _)
   | (with_reducible exact earshotref03_Nearest.mono _ _ _)
   | (with_reducible exact LeO.refl _)
   | (with_reducible exact LeO.none _)
   | (with_reducible refine LeO.ite ?_ ?_)
   | (with_reducible refine LeO.bind ?_ (fun _ => ?_))
   | exact ih0 _ _ _ _
   | exact earshotref03_Distance.mono _ _ _
   | exact earshotref03_Nearest.mono _ _ _
   | exact LeO.none _
   | refine LeO.ite ?_ ?_
   | refine LeO.bind ?_ (fun _ => ?_)
set_option maxHeartbeats 8000000 in
set_option maxRecDepth 100000 in
theorem earshotref03_Cost.calls (k : Nat) (A0 : Option Addr) (c0 : Nat) (l0 : List (List Int)) (A1 : Option Addr) (c1 : Nat) (l1 : List (List Int)) (r : Int) (w : World) (hr0 : Kd.C (Kd.slice 3 (Kd.int .i64)) w A0 l0.length l0) (hc0 : l0.length ≤ c0) (hr1 : Kd.C (Kd.slice 3 (Kd.int .i64)) w A1 l1.length l1) (hc1 : l1.length ≤ c1) (h : earshotref03_Cost.f k l0 l1 = some r) :
  Calls Tryd.prog 65 #[.slice A0 l0.length c0, .slice A1 l1.length c1] w fun e w' => e = .returned (.int .i64 r) ∧ Drawn0 w w' := by
 have HR0 := Aside0.mk hr0
 have HC0 := Aside0.mk hc0
 clear hr0 hc0
 have HR1 := Aside0.mk hr1
 have HC1 := Aside0.mk hc1
 clear hr1 hc1
 have H : (earshotref03_Cost.l0 k l0 l1 0 0) = some r := h
 clear h
 have H' := Aside0.mk H
 clear H
 go_enter Tryd.func65, Tryd.ntmps65
 go_wp2
 repeat (go_quiet (fail); try go_wp2)
 go_loopg [5, 6] k (fun kq v5 v6 w' => ∃ (x5_1 : Int) (x6_1 : Int), v5 = .int .i64 x5_1 ∧ v6 = .int .i64 x6_1 ∧ Aside0 (earshotref03_Cost.l0 kq l0 l1 x5_1 x6_1 = some r) ∧ Aside0 (kq ≤ k) ∧ Drawn0 w w')
 case atStart => exact ⟨(0), (0), (by first | rfl | (simp; done) | (simp only [i64_w]; done) | (simp [*]; done)), (by first | rfl | (simp; done) | (simp only [i64_w]; done) | (simp [*]; done)), H', ⟨Nat.le_refl _⟩, by repeat (first | exact Drawn0.refl _ | apply Drawn0.step)⟩
 case round =>
  clear H'
  try clear c1
  try clear p2
  obtain ⟨x5_1, x6_1, rfl, rfl, HA, HK1, ⟨m1, rfl⟩⟩ := hrel
  cases gk with
  | zero => exact absurd HA.out (by simp [earshotref03_Cost.l0])
  | succ k1 =>
   have H := HA.out
   clear HA
   simp only [earshotref03_Cost.l0] at H
   by_cases c3 : x6_1 < (l0.length : Int)
   ·rw [if_pos c3] at H
    have c3b0 := decide_eq_true c3
    clear c3
    by_cases c4 : 0 ≤ x6_1
    ·rw [if_pos c4] at H
     have c4b0 := decide_eq_true c4
     clear c4
     replace H := Option.bind_eq_some_iff.mp H
     obtain ⟨t103, A50, H⟩ := H
     try dsimp only at H
     have A5 := Aside0.mk A50
     clear A50
     by_cases c6 : 0 ≤ t103
     ·rw [if_pos c6] at H
      have c6b0 := decide_eq_true c6
      clear c6
      by_cases c7 : t103 < (l1.length : Int)
      ·rw [if_pos c7] at H
       have c7b0 := decide_eq_true c7
       clear c7
       replace H := Option.bind_eq_some_iff.mp H
       obtain ⟨t105, A80, H⟩ := H
       try dsimp only at H
       have A8 := Aside0.mk A80
       clear A80
       have H' := Aside0.mk H
       clear H
       have p101 : 0 ≤ (x6_1 : Int) := of_decide_eq_true tA
       have q101 : x6_1 < (l0.length : Int) := of_decide_eq_true tA
       obtain ⟨ad101, A101_0, c101_0, e101, hx101_0, hl101_0, hi101_0⟩ := at_L2 HR0.out x6_1 p101 q101
       cases e101
       have HR101_0 := Aside0.mk hi101_0
       have HC101_0 := Aside0.mk hl101_0
       clear hi101_0 hl101_0
       replace p101 := eq_true p101
       replace q101 := eq_true q101
       have p102 : 0 ≤ (x6_1 : Int) := of_decide_eq_true tA
       have q102 : x6_1 < (l0.length : Int) := of_decide_eq_true tA
       obtain ⟨ad102, A102_0, c102_0, e102, hx102_0, hl102_0, hi102_0⟩ := at_L2 HR0.out x6_1 p102 q102
       obtain rfl : ad101 = ad102 := (by injection e102)
       have HR102_0 := Aside0.mk hi102_0
       have HC102_0 := Aside0.mk hl102_0
       clear hi102_0 hl102_0
       replace p102 := eq_true p102
       replace q102 := eq_true q102
       have ea_ := Option.some.inj (hx101_0.symm.trans hx102_0)
       injection ea_ with ea_ en_ ec_
       subst ea_
       subst ec_
       clear en_
       go_wp2_with (first | (go_at_call 72; (with_reducible refine (earshotref03_Nearest.calls k1 _ _ (rd_L2 l0 x6_1) _ _ l1 t103 _ ?side1 ?side2 ?side3 ?side4 A5.out).mono ?_); (case side1 => exact tC HR102_0.out); (case side2 => exact HC102_0.out); (case side3 => exact tC HR1.out); (case side4 => exact HC1.out); rintro e w' ⟨rfl, ⟨nd, rfl⟩⟩; (try first | exact ⟨rfl, _, World.drewN_drewN _ _ _⟩ | exact ⟨rfl, _, Eq.trans (World.drewN_drewN _ _ _) (congrArg (World.drewN _) (Nat.add_assoc _ _ _))⟩); have p104 : 0 ≤ (t103 : Int) := of_decide_eq_true tA; have q104 : t103 < (l1.length : Int) := of_decide_eq_true tA; obtain ⟨ad104, A104_0, c104_0, e104, hx104_0, hl104_0, hi104_0⟩ := at_L2 HR1.out t103 p104 q104; cases e104; have HR104_0 := Aside0.mk hi104_0; have HC104_0 := Aside0.mk hl104_0; clear hi104_0 hl104_0; replace p104 := eq_true p104; replace q104 := eq_true q104) | (go_at_call 70; (with_reducible refine (earshotref03_Distance.calls k1 _ _ (rd_L2 l0 x6_1) _ _ (rd_L2 l1 t103) t105 _ ?side1 ?side2 ?side3 ?side4 A8.out).mono ?_); (case side1 => exact tC HR101_0.out); (case side2 => exact HC101_0.out); (case side3 => exact tC HR104_0.out); (case side4 => exact HC104_0.out); rintro e w' ⟨rfl, ⟨nd, rfl⟩⟩; (try first | exact ⟨rfl, _, World.drewN_drewN _ _ _⟩ | exact ⟨rfl, _, Eq.trans (World.drewN_drewN _ _ _) (congrArg (World.drewN _) (Nat.add_assoc _ _ _))⟩)))
       repeat (go_quiet (first | (go_at_call 72; (with_reducible refine (earshotref03_Nearest.calls k1 _ _ (rd_L2 l0 x6_1) _ _ l1 t103 _ ?side1 ?side2 ?side3 ?side4 A5.out).mono ?_); (case side1 => exact tC HR102_0.out); (case side2 => exact HC102_0.out); (case side3 => exact tC HR1.out); (case side4 => exact HC1.out); rintro e w' ⟨rfl, ⟨nd, rfl⟩⟩; (try first | exact ⟨rfl, _, World.drewN_drewN _ _ _⟩ | exact ⟨rfl, _, Eq.trans (World.drewN_drewN _ _ _) (congrArg (World.drewN _) (Nat.add_assoc _ _ _))⟩); have p104 : 0 ≤ (t103 : Int) := of_decide_eq_true tA; have q104 : t103 < (l1.length : Int) := of_decide_eq_true tA; obtain ⟨ad104, A104_0, c104_0, e104, hx104_0, hl104_0, hi104_0⟩ := at_L2 HR1.out t103 p104 q104; cases e104; have HR104_0 := Aside0.mk hi104_0; have HC104_0 := Aside0.mk hl104_0; clear hi104_0 hl104_0; replace p104 := eq_true p104; replace q104 := eq_true q104) | (go_at_call 70; (with_reducible refine (earshotref03_Distance.calls k1 _ _ (rd_L2 l0 x6_1) _ _ (rd_L2 l1 t103) t105 _ ?side1 ?side2 ?side3 ?side4 A8.out).mono ?_); (case side1 => exact tC HR101_0.out); (case side2 => exact HC101_0.out); (case side3 => exact tC HR104_0.out); (case side4 => exact HC104_0.out); rintro e w' ⟨rfl, ⟨nd, rfl⟩⟩; (try first | exact ⟨rfl, _, World.drewN_drewN _ _ _⟩ | exact ⟨rfl, _, Eq.trans (World.drewN_drewN _ _ _) (congrArg (World.drewN _) (Nat.add_assoc _ _ _))⟩))); try go_wp2_with (first | (go_at_call 72; (with_reducible refine (earshotref03_Nearest.calls k1 _ _ (rd_L2 l0 x6_1) _ _ l1 t103 _ ?side1 ?side2 ?side3 ?side4 A5.out).mono ?_); (case side1 => exact tC HR102_0.out); (case side2 => exact HC102_0.out); (case side3 => exact tC HR1.out); (case side4 => exact HC1.out); rintro e w' ⟨rfl, ⟨nd, rfl⟩⟩; (try first | exact ⟨rfl, _, World.drewN_drewN _ _ _⟩ | exact ⟨rfl, _, Eq.trans (World.drewN_drewN _ _ _) (congrArg (World.drewN _) (Nat.add_assoc _ _ _))⟩); have p104 : 0 ≤ (t103 : Int) := of_decide_eq_true tA; have q104 : t103 < (l1.length : Int) := of_decide_eq_true tA; obtain ⟨ad104, A104_0, c104_0, e104, hx104_0, hl104_0, hi104_0⟩ := at_L2 HR1.out t103 p104 q104; cases e104; have HR104_0 := Aside0.mk hi104_0; have HC104_0 := Aside0.mk hl104_0; clear hi104_0 hl104_0; replace p104 := eq_true p104; replace q104 := eq_true q104) | (go_at_call 70; (with_reducible refine (earshotref03_Distance.calls k1 _ _ (rd_L2 l0 x6_1) _ _ (rd_L2 l1 t103) t105 _ ?side1 ?side2 ?side3 ?side4 A8.out).mono ?_); (case side1 => exact tC HR101_0.out); (case side2 => exact HC101_0.out); (case side3 => exact tC HR104_0.out); (case side4 => exact HC104_0.out); rintro e w' ⟨rfl, ⟨nd, rfl⟩⟩; (try first | exact ⟨rfl, _, World.drewN_drewN _ _ _⟩ | exact ⟨rfl, _, Eq.trans (World.drewN_drewN _ _ _) (congrArg (World.drewN _) (Nat.add_assoc _ _ _))⟩))))
       go_roundg k1
       case measure => have := HK1.out; omega
       case rel => exact ⟨(wrap64 (x5_1 + t105)), (wrap64 (x6_1 + 1)), (by first | rfl | (simp; done) | (simp only [i64_w]; done) | (simp [*]; done)), (by first | rfl | (simp; done) | (simp only [i64_w]; done) | (simp [*]; done)), H', ⟨by have := HK1.out; omega⟩, by repeat (first | exact Drawn0.refl _ | apply Drawn0.step)⟩
      ·rw [if_neg c7] at H
       exact absurd H (by simp)
     ·rw [if_neg c6] at H
      exact absurd H (by simp)
    ·rw [if_neg c4] at H
     exact absurd H (by simp)
   ·rw [if_neg c3] at H
    have c3b0 := decide_eq_false c3
    clear c3
    obtain rfl := Option.some.inj H
    go_wp2
    repeat (go_quiet (fail); try go_wp2)
    go_ret
    exact ⟨by first | rfl | (simp; done) | (simp [*]; done), by repeat (first | exact Drawn0.refl _ | apply Drawn0.step)⟩

end Go.Proofs.YtdlbmbijobcljaaDoor.X
