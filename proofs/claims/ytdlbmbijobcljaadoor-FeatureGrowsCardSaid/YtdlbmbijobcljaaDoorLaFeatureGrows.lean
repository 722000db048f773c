/- FeatureGrows: for every input whatever the law returns true, and each argument reads behind the call as it read before. Conditions: those of the row: the listed variable earshot/api.Cosines reads as laid, which the card ties to the program's text. By a program of this session's own (wip/print/gen_row.py), after the kit's print. -/
import Derived.Test.YtdlbmbijobcljaaDoorMA
import Derived.Test.YtdlbmbijobcljaaDoorMK
import Derived.Test.YtdlbmbijobcljaaDoorMC
import Derived.Test.YtdlbmbijobcljaaDoorRows
import Derived.Test.YtdlbmbijobcljaaDoorCards
import Derived.Test.YtdlbmbijobcljaaDoorMJ
import Derived.Test.YtdlbmbijobcljaaDoorHJoinedE
import Derived.Test.YtdlbmbijobcljaaDoorTie
import Derived.LaidMore
import Derived.Stop.Joined
import Derived.SevenTiedAt
import Derived.WalkKit
import Derived.ProofKit
import Derived.OpenShut
import Derived.ShutString
import Derived.ChangeOld
import Derived.Below
import Derived.SizedLaws
namespace Go.Proofs.YtdlbmbijobcljaaDoor.X
open Go.RowKit Go.Proofs.YtdlbmbijobcljaaDoorW.PrintWords Go.Proofs.YtdlbmbijobcljaaDoorW.PrintLast Go.Proofs.YtdlbmbijobcljaaDoorW.PrintMore
attribute [local go_sem] max2_int min2_int max_two min_two max_three min_three max_four min_four   -- for this text's walks alone
set_option linter.unusedVariables false
set_option linter.unusedSimpArgs false
/-! ### earshotlaw03_FeatureGrows: function 7 -/
def earshotlaw03_FeatureGrows.j0 : Nat → Int → Int → Int → Bool → Option (Bool)
 | 0, _, _, _, _ => none
 | k + 1, x0, x1, x2, x38 => if x38 = true then ((earshotlaw03_known.f k).bind fun t101 => (some t101)) else ((feature_Log.f k x0).bind fun bt102 => ((feature_Log.f k x1).bind fun bt104 => ((feature_Log.f k (wrap64 (x0 * x1))).bind fun bt106 => ((feature_Log.f k (wrap64 (2 * x0))).bind fun bt108 => (if 0 ≤ x2 then ((feature_Log.f k (shl .i64 1 x2)).bind fun bt110 => (if bt102.2 = 0 then (if bt104.2 = 0 then (if bt106.2 = 0 then (if bt108.2 = 0 then (if bt110.2 = 0 then (if x0 > x1 then (if bt108.1 = (wrap64 (bt102.1 + 16)) then (if bt110.1 = (wrap64 (16 * x2)) then (if bt106.1 = (wrap64 (bt102.1 + bt104.1)) then ((earshotlaw03_known.f k).bind fun t112 => (some t112)) else (if bt106.1 = (wrap64 ((wrap64 (bt102.1 + bt104.1)) + 1)) then ((earshotlaw03_known.f k).bind fun t113 => (some t113)) else (some false))) else (some false)) else (some false)) else (if bt102.1 ≤ bt104.1 then (if bt108.1 = (wrap64 (bt102.1 + 16)) then (if bt110.1 = (wrap64 (16 * x2)) then (if bt106.1 = (wrap64 (bt102.1 + bt104.1)) then ((earshotlaw03_known.f k).bind fun t114 => (some t114)) else (if bt106.1 = (wrap64 ((wrap64 (bt102.1 + bt104.1)) + 1)) then ((earshotlaw03_known.f k).bind fun t115 => (some t115)) else (some false))) else (some false)) else (some false)) else (some false))) else (some false)) else (some false)) else (some false)) else (some false)) else (some false))) else (none))))))
def earshotlaw03_FeatureGrows.f (k : Nat) (a0 : Int) (a1 : Int) (a2 : Int) : Option (Bool) := if a0 < 1 then (earshotlaw03_FeatureGrows.j0 k a0 a1 a2 true) else (if a0 > 1073741824 then (earshotlaw03_FeatureGrows.j0 k a0 a1 a2 true) else (if a1 < 1 then (earshotlaw03_FeatureGrows.j0 k a0 a1 a2 true) else (if a1 > 1073741824 then (earshotlaw03_FeatureGrows.j0 k a0 a1 a2 true) else (if a2 < 0 then (earshotlaw03_FeatureGrows.j0 k a0 a1 a2 true) else (earshotlaw03_FeatureGrows.j0 k a0 a1 a2 (decide (a2 > 62)))))))
theorem earshotlaw03_FeatureGrows.mono_l : ∀ k, (∀ y0 y1 y2 y3, LeO (earshotlaw03_FeatureGrows.j0 k y0 y1 y2 y3) (earshotlaw03_FeatureGrows.j0 (k + 1) y0 y1 y2 y3))
 | 0 => fun _ _ _ _ r h => by simp [earshotlaw03_FeatureGrows.j0] at h
 | k + 1 => by
  have ih0 := earshotlaw03_FeatureGrows.mono_l k
  ·intro y0 y1 y2 y3
   unfold earshotlaw03_FeatureGrows.j0
   repeat' first
   | (with_reducible exact ih0 _ _ _ _)
   | (with_reducible exact earshotlaw03_known.mono _)
   | (with_reducible exact feature_Log.mono _ _)
   | (with_reducible exact LeO.refl _)
   | (with_reducible exact LeO.none _)
   | (with_reducible refine LeO.ite ?_ ?_)
   | (with_reducible refine LeO.bind ?_ (fun _ => ?_))
   | exact ih0 _ _ _ _
   | exact earshotlaw03_known.mono _
   | exact feature_Log.mono _ _
   | exact LeO.none _
   | refine LeO.ite ?_ ?_
   | refine LeO.bind ?_ (fun _ => ?_)
theorem earshotlaw03_FeatureGrows.mono : ∀ a0 a1 a2 k, LeO (earshotlaw03_FeatureGrows.f k a0 a1 a2) (earshotlaw03_FeatureGrows.f (k + 1) a0 a1 a2) := by
 intro a0 a1 a2 k
 have ih0 := earshotlaw03_FeatureGrows.mono_l k
 unfold earshotlaw03_FeatureGrows.f
 repeat' first
   | (with_reducible exact ih0 _ _ _ _)
   | (with_reducible exact earshotlaw03_known.mono _)
   | (with_reducible exact feature_Log.mono _ _)
   | (with_reducible exact LeO.refl _)
   | (with_reducible exact LeO.none _)
   | (with_reducible refine LeO.ite ?_ ?_)
   | (with_reducible refine LeO.bind ?_ (fun _ => ?_))
   | exact ih0 _ _ _ _
   | exact earshotlaw03_known.mono _
   | exact feature_Log.mono _ _
   | exact LeO.none _
   | refine LeO.ite ?_ ?_
   | refine LeO.bind ?_ (fun _ => ?_)
set_option maxHeartbeats 8000000 in
set_option maxRecDepth 100000 in
theorem earshotlaw03_FeatureGrows.calls (k : Nat) (a0 : Int) (a1 : Int) (a2 : Int) (r : Bool) (w : World) (ht : Kd.C (Kd.int .i64) w (some ⟨0, 0, none⟩) 65 tabL) (h : earshotlaw03_FeatureGrows.f k a0 a1 a2 = some r) :
  Calls Tryd.prog 7 #[.int .i64 a0, .int .i64 a1, .int .i64 a2] w fun e w' => e = .returned (.bool r) ∧ Below w.heap.size w w' := by
 have HRT := Aside0.mk ht
 clear ht
 have HB := Aside0.mk (Below.refl w.heap.size w)
 have H : (if a0 < 1 then (earshotlaw03_FeatureGrows.j0 k a0 a1 a2 true) else (if a0 > 1073741824 then (earshotlaw03_FeatureGrows.j0 k a0 a1 a2 true) else (if a1 < 1 then (earshotlaw03_FeatureGrows.j0 k a0 a1 a2 true) else (if a1 > 1073741824 then (earshotlaw03_FeatureGrows.j0 k a0 a1 a2 true) else (if a2 < 0 then (earshotlaw03_FeatureGrows.j0 k a0 a1 a2 true) else (earshotlaw03_FeatureGrows.j0 k a0 a1 a2 (decide (a2 > 62)))))))) = some r := h
 clear h
 have HC4 := Aside0.mk H
 clear H
 go_enter Tryd.func7, Tryd.ntmps7
 go_upto_region 1 with (fail)
 go_cut [38] (fun v38 wc => ∃ (kq : Nat) (x38_3 : Bool), v38 = .bool x38_3 ∧ Aside0 (earshotlaw03_FeatureGrows.j0 kq a0 a1 a2 x38_3 = some r) ∧ Aside0 (kq ≤ k) ∧ Aside0 (Below w.heap.size w wc))
 case first =>
  have H := HC4.out
  clear HC4
  by_cases c5 : a0 < 1
  ·rw [if_pos c5] at H
   have c5b0 : decide (a0 < 1) = true := decide_eq_true c5
   clear c5
   (first | rw [c5b0] | (simp only [i64_w, i32_w]; rw [c5b0]) | skip)
   have H' := Aside0.mk H
   clear H
   go_wp2
   go_meet
   case rel => exact ⟨_, (true), (by first | rfl | (simp; done) | (simp only [i64_w]; done) | (simp [*]; done)), H', ⟨by first | omega | exact Nat.le_refl _⟩, ⟨by repeat (first | (with_reducible first | exact HB.out | apply below_alloc | apply pw_below_drewN | apply below_drew1) | exact HB.out)⟩⟩
  ·rw [if_neg c5] at H
   have c5b0 : decide (a0 < 1) = false := decide_eq_false c5
   clear c5
   (first | rw [c5b0] | (simp only [i64_w, i32_w]; rw [c5b0]) | skip)
   by_cases c6 : a0 > 1073741824
   ·rw [if_pos c6] at H
    have c6b0 : decide (1073741824 < a0) = true := decide_eq_true c6
    clear c6
    have H' := Aside0.mk H
    clear H
    go_wp2
    go_meet
    case rel => exact ⟨_, (true), (by first | rfl | (simp; done) | (simp only [i64_w]; done) | (simp [*]; done)), H', ⟨by first | omega | exact Nat.le_refl _⟩, ⟨by repeat (first | (with_reducible first | exact HB.out | apply below_alloc | apply pw_below_drewN | apply below_drew1) | exact HB.out)⟩⟩
   ·rw [if_neg c6] at H
    have c6b0 : decide (1073741824 < a0) = false := decide_eq_false c6
    clear c6
    by_cases c7 : a1 < 1
    ·rw [if_pos c7] at H
     have c7b0 : decide (a1 < 1) = true := decide_eq_true c7
     clear c7
     have H' := Aside0.mk H
     clear H
     go_wp2
     go_meet
     case rel => exact ⟨_, (true), (by first | rfl | (simp; done) | (simp only [i64_w]; done) | (simp [*]; done)), H', ⟨by first | omega | exact Nat.le_refl _⟩, ⟨by repeat (first | (with_reducible first | exact HB.out | apply below_alloc | apply pw_below_drewN | apply below_drew1) | exact HB.out)⟩⟩
    ·rw [if_neg c7] at H
     have c7b0 : decide (a1 < 1) = false := decide_eq_false c7
     clear c7
     by_cases c8 : a1 > 1073741824
     ·rw [if_pos c8] at H
      have c8b0 : decide (1073741824 < a1) = true := decide_eq_true c8
      clear c8
      have H' := Aside0.mk H
      clear H
      go_wp2
      go_meet
      case rel => exact ⟨_, (true), (by first | rfl | (simp; done) | (simp only [i64_w]; done) | (simp [*]; done)), H', ⟨by first | omega | exact Nat.le_refl _⟩, ⟨by repeat (first | (with_reducible first | exact HB.out | apply below_alloc | apply pw_below_drewN | apply below_drew1) | exact HB.out)⟩⟩
     ·rw [if_neg c8] at H
      have c8b0 : decide (1073741824 < a1) = false := decide_eq_false c8
      clear c8
      by_cases c9 : a2 < 0
      ·rw [if_pos c9] at H
       have c9b0 : decide (a2 < 0) = true := decide_eq_true c9
       clear c9
       have H' := Aside0.mk H
       clear H
       go_wp2
       go_meet
       case rel => exact ⟨_, (true), (by first | rfl | (simp; done) | (simp only [i64_w]; done) | (simp [*]; done)), H', ⟨by first | omega | exact Nat.le_refl _⟩, ⟨by repeat (first | (with_reducible first | exact HB.out | apply below_alloc | apply pw_below_drewN | apply below_drew1) | exact HB.out)⟩⟩
      ·rw [if_neg c9] at H
       have c9b0 : decide (a2 < 0) = false := decide_eq_false c9
       clear c9
       have H' := Aside0.mk H
       clear H
       go_wp2
       go_meet
       case rel => exact ⟨_, (decide (a2 > 62)), (by first | rfl | (simp; done) | (simp only [i64_w]; done) | (simp [*]; done)), H', ⟨by first | omega | exact Nat.le_refl _⟩, ⟨by repeat (first | (with_reducible first | exact HB.out | apply below_alloc | apply pw_below_drewN | apply below_drew1) | exact HB.out)⟩⟩
 case rest =>
  clear HC4
  try clear p2
  try clear c5
  try clear c5b0
  try clear c6
  try clear c6b0
  try clear c7
  try clear c7b0
  try clear c8
  try clear c8b0
  try clear c9
  try clear c9b0
  obtain ⟨kq, x38_3, rfl, HA, HJ3, HB⟩ := hcut
  cases kq with
  | zero => exact absurd HA.out (by simp [earshotlaw03_FeatureGrows.j0])
  | succ kj3 =>
   have H := HA.out
   clear HA
   simp only [earshotlaw03_FeatureGrows.j0] at H
   by_cases c10 : x38_3 = true
   ·subst c10
    have H1 : ((earshotlaw03_known.f kj3).bind fun t101 => (some t101)) = some r := by rw [if_pos rfl] at H; exact H
    clear H
    have H := H1
    clear H1
    replace H := Option.bind_eq_some_iff.mp H
    obtain ⟨t101, A110, H⟩ := H
    replace H : (some t101) = some r := H
    have A11 := Aside0.mk A110
    clear A110
    obtain rfl := Option.some.inj H
    go_wp2_with (first | ((with_reducible refine gate_callee (f := 22) rfl ?_); refine goesL_ (some 39) rfl rfl Tryd.func22 (by kernel_rfl) rfl #[] rfl (by (try simp only [List.map_toArray, List.map_cons, List.map_nil]); first | done | rfl | (simp only [List.length_drop, List.length_take]; rfl)) ?_; (with_reducible refine (earshotlaw03_known.calls kj3  t101 _ ?side1 A11.out).mono ?_); (case side1 => repeat (first | exact (Kd.C_below HRT.out HB.out) | (with_reducible refine Kd.C_alloc ?_ _) | (with_reducible refine Kd.C_drewN ?_ _) | (with_reducible refine Kd.C_drew ?_))); rintro e w12 ⟨rfl, hb⟩; refine ⟨_, rfl, ?_⟩; have n0_ := Aside0.mk (below_step (by repeat (first | (with_reducible first | exact HB.out | apply below_alloc | apply pw_below_drewN | apply below_drew1) | exact HB.out)) hb); clear HB; have HB := n0_; clear n0_; (try clear hb); (try clear hb2); (try clear hk); (try clear hi)))
    go_ret
    exact ⟨by first | rfl | (simp [errW_none, errW_some] <;> rfl) | (simp [*, errW_none, errW_some] <;> rfl), by repeat (first | (with_reducible first | exact HB.out | apply below_alloc | apply pw_below_drewN | apply below_drew1) | exact HB.out)⟩
   ·replace c10 := Bool.eq_false_iff.mpr c10
    subst c10
    have H1 : ((feature_Log.f kj3 a0).bind fun bt102 => ((feature_Log.f kj3 a1).bind fun bt104 => ((feature_Log.f kj3 (wrap64 (a0 * a1))).bind fun bt106 => ((feature_Log.f kj3 (wrap64 (2 * a0))).bind fun bt108 => (if 0 ≤ a2 then ((feature_Log.f kj3 (shl .i64 1 a2)).bind fun bt110 => (if bt102.2 = 0 then (if bt104.2 = 0 then (if bt106.2 = 0 then (if bt108.2 = 0 then (if bt110.2 = 0 then (if a0 > a1 then (if bt108.1 = (wrap64 (bt102.1 + 16)) then (if bt110.1 = (wrap64 (16 * a2)) then (if bt106.1 = (wrap64 (bt102.1 + bt104.1)) then ((earshotlaw03_known.f kj3).bind fun t112 => (some t112)) else (if bt106.1 = (wrap64 ((wrap64 (bt102.1 + bt104.1)) + 1)) then ((earshotlaw03_known.f kj3).bind fun t113 => (some t113)) else (some false))) else (some false)) else (some false)) else (if bt102.1 ≤ bt104.1 then (if bt108.1 = (wrap64 (bt102.1 + 16)) then (if bt110.1 = (wrap64 (16 * a2)) then (if bt106.1 = (wrap64 (bt102.1 + bt104.1)) then ((earshotlaw03_known.f kj3).bind fun t114 => (some t114)) else (if bt106.1 = (wrap64 ((wrap64 (bt102.1 + bt104.1)) + 1)) then ((earshotlaw03_known.f kj3).bind fun t115 => (some t115)) else (some false))) else (some false)) else (some false)) else (some false))) else (some false)) else (some false)) else (some false)) else (some false)) else (some false))) else (none)))))) = some r := by rw [if_neg (show ¬ (false = true) by decide)] at H; exact H
    clear H
    have H := H1
    clear H1
    replace H := Option.bind_eq_some_iff.mp H
    obtain ⟨⟨t102, t103⟩, A130, H⟩ := H
    replace H : ((feature_Log.f kj3 a1).bind fun bt104 => ((feature_Log.f kj3 (wrap64 (a0 * a1))).bind fun bt106 => ((feature_Log.f kj3 (wrap64 (2 * a0))).bind fun bt108 => (if 0 ≤ a2 then ((feature_Log.f kj3 (shl .i64 1 a2)).bind fun bt110 => (if t103 = 0 then (if bt104.2 = 0 then (if bt106.2 = 0 then (if bt108.2 = 0 then (if bt110.2 = 0 then (if a0 > a1 then (if bt108.1 = (wrap64 (t102 + 16)) then (if bt110.1 = (wrap64 (16 * a2)) then (if bt106.1 = (wrap64 (t102 + bt104.1)) then ((earshotlaw03_known.f kj3).bind fun t112 => (some t112)) else (if bt106.1 = (wrap64 ((wrap64 (t102 + bt104.1)) + 1)) then ((earshotlaw03_known.f kj3).bind fun t113 => (some t113)) else (some false))) else (some false)) else (some false)) else (if t102 ≤ bt104.1 then (if bt108.1 = (wrap64 (t102 + 16)) then (if bt110.1 = (wrap64 (16 * a2)) then (if bt106.1 = (wrap64 (t102 + bt104.1)) then ((earshotlaw03_known.f kj3).bind fun t114 => (some t114)) else (if bt106.1 = (wrap64 ((wrap64 (t102 + bt104.1)) + 1)) then ((earshotlaw03_known.f kj3).bind fun t115 => (some t115)) else (some false))) else (some false)) else (some false)) else (some false))) else (some false)) else (some false)) else (some false)) else (some false)) else (some false))) else (none))))) = some r := H
    have A13 := Aside0.mk A130
    clear A130
    replace H := Option.bind_eq_some_iff.mp H
    obtain ⟨⟨t104, t105⟩, A140, H⟩ := H
    replace H : ((feature_Log.f kj3 (wrap64 (a0 * a1))).bind fun bt106 => ((feature_Log.f kj3 (wrap64 (2 * a0))).bind fun bt108 => (if 0 ≤ a2 then ((feature_Log.f kj3 (shl .i64 1 a2)).bind fun bt110 => (if t103 = 0 then (if t105 = 0 then (if bt106.2 = 0 then (if bt108.2 = 0 then (if bt110.2 = 0 then (if a0 > a1 then (if bt108.1 = (wrap64 (t102 + 16)) then (if bt110.1 = (wrap64 (16 * a2)) then (if bt106.1 = (wrap64 (t102 + t104)) then ((earshotlaw03_known.f kj3).bind fun t112 => (some t112)) else (if bt106.1 = (wrap64 ((wrap64 (t102 + t104)) + 1)) then ((earshotlaw03_known.f kj3).bind fun t113 => (some t113)) else (some false))) else (some false)) else (some false)) else (if t102 ≤ t104 then (if bt108.1 = (wrap64 (t102 + 16)) then (if bt110.1 = (wrap64 (16 * a2)) then (if bt106.1 = (wrap64 (t102 + t104)) then ((earshotlaw03_known.f kj3).bind fun t114 => (some t114)) else (if bt106.1 = (wrap64 ((wrap64 (t102 + t104)) + 1)) then ((earshotlaw03_known.f kj3).bind fun t115 => (some t115)) else (some false))) else (some false)) else (some false)) else (some false))) else (some false)) else (some false)) else (some false)) else (some false)) else (some false))) else (none)))) = some r := H
    have A14 := Aside0.mk A140
    clear A140
    replace H := Option.bind_eq_some_iff.mp H
    obtain ⟨⟨t106, t107⟩, A150, H⟩ := H
    replace H : ((feature_Log.f kj3 (wrap64 (2 * a0))).bind fun bt108 => (if 0 ≤ a2 then ((feature_Log.f kj3 (shl .i64 1 a2)).bind fun bt110 => (if t103 = 0 then (if t105 = 0 then (if t107 = 0 then (if bt108.2 = 0 then (if bt110.2 = 0 then (if a0 > a1 then (if bt108.1 = (wrap64 (t102 + 16)) then (if bt110.1 = (wrap64 (16 * a2)) then (if t106 = (wrap64 (t102 + t104)) then ((earshotlaw03_known.f kj3).bind fun t112 => (some t112)) else (if t106 = (wrap64 ((wrap64 (t102 + t104)) + 1)) then ((earshotlaw03_known.f kj3).bind fun t113 => (some t113)) else (some false))) else (some false)) else (some false)) else (if t102 ≤ t104 then (if bt108.1 = (wrap64 (t102 + 16)) then (if bt110.1 = (wrap64 (16 * a2)) then (if t106 = (wrap64 (t102 + t104)) then ((earshotlaw03_known.f kj3).bind fun t114 => (some t114)) else (if t106 = (wrap64 ((wrap64 (t102 + t104)) + 1)) then ((earshotlaw03_known.f kj3).bind fun t115 => (some t115)) else (some false))) else (some false)) else (some false)) else (some false))) else (some false)) else (some false)) else (some false)) else (some false)) else (some false))) else (none))) = some r := H
    have A15 := Aside0.mk A150
    clear A150
    replace H := Option.bind_eq_some_iff.mp H
    obtain ⟨⟨t108, t109⟩, A160, H⟩ := H
    replace H : (if 0 ≤ a2 then ((feature_Log.f kj3 (shl .i64 1 a2)).bind fun bt110 => (if t103 = 0 then (if t105 = 0 then (if t107 = 0 then (if t109 = 0 then (if bt110.2 = 0 then (if a0 > a1 then (if t108 = (wrap64 (t102 + 16)) then (if bt110.1 = (wrap64 (16 * a2)) then (if t106 = (wrap64 (t102 + t104)) then ((earshotlaw03_known.f kj3).bind fun t112 => (some t112)) else (if t106 = (wrap64 ((wrap64 (t102 + t104)) + 1)) then ((earshotlaw03_known.f kj3).bind fun t113 => (some t113)) else (some false))) else (some false)) else (some false)) else (if t102 ≤ t104 then (if t108 = (wrap64 (t102 + 16)) then (if bt110.1 = (wrap64 (16 * a2)) then (if t106 = (wrap64 (t102 + t104)) then ((earshotlaw03_known.f kj3).bind fun t114 => (some t114)) else (if t106 = (wrap64 ((wrap64 (t102 + t104)) + 1)) then ((earshotlaw03_known.f kj3).bind fun t115 => (some t115)) else (some false))) else (some false)) else (some false)) else (some false))) else (some false)) else (some false)) else (some false)) else (some false)) else (some false))) else (none)) = some r := H
    have A16 := Aside0.mk A160
    clear A160
    by_cases c17 : 0 ≤ a2
    ·rw [if_pos c17] at H
     have c17b0 := eq_true c17
     have c17b1 : decide (0 ≤ a2) = true := decide_eq_true c17
     clear c17
     obtain ⟨ji18, hji18⟩ : ∃ j_ : Int, (shl .i64 1 a2) = j_ := ⟨_, rfl⟩
     replace H : ((feature_Log.f kj3 (ji18)).bind fun bt110 => (if t103 = 0 then (if t105 = 0 then (if t107 = 0 then (if t109 = 0 then (if bt110.2 = 0 then (if a0 > a1 then (if t108 = (wrap64 (t102 + 16)) then (if bt110.1 = (wrap64 (16 * a2)) then (if t106 = (wrap64 (t102 + t104)) then ((earshotlaw03_known.f kj3).bind fun t112 => (some t112)) else (if t106 = (wrap64 ((wrap64 (t102 + t104)) + 1)) then ((earshotlaw03_known.f kj3).bind fun t113 => (some t113)) else (some false))) else (some false)) else (some false)) else (if t102 ≤ t104 then (if t108 = (wrap64 (t102 + 16)) then (if bt110.1 = (wrap64 (16 * a2)) then (if t106 = (wrap64 (t102 + t104)) then ((earshotlaw03_known.f kj3).bind fun t114 => (some t114)) else (if t106 = (wrap64 ((wrap64 (t102 + t104)) + 1)) then ((earshotlaw03_known.f kj3).bind fun t115 => (some t115)) else (some false))) else (some false)) else (some false)) else (some false))) else (some false)) else (some false)) else (some false)) else (some false)) else (some false))) = some r := by first | (rw [hji18] at H; exact H) | (simp only [hji18] at H ⊢; exact H)
     (try rw [hji18] at A13)
     (try rw [hji18] at A14)
     (try rw [hji18] at A15)
     (try rw [hji18] at A16)
     have hji18_ : (IntKind.i64.wrap (1 * 2 ^ min a2.toNat 64)) = ji18 := hji18
     have hji18z : a2 ≤ 64 → (IntKind.i64.wrap (1 * 2 ^ a2.toNat)) = ji18 := shl_small hji18
     have hji18u : (IntKind.i64.wrap (2 ^ min a2.toNat 64)) = ji18 := by have h_ := hji18_; rw [Int.one_mul] at h_; exact h_
     have hji18v : a2 ≤ 64 → (IntKind.i64.wrap (2 ^ a2.toNat)) = ji18 := fun hle_ => by have h_ := hji18z hle_; rw [Int.one_mul] at h_; exact h_
     have hji18y : (wrap64 (1 * 2 ^ min a2.toNat 64)) = ji18 := (i64_w _).symm.trans hji18_
     have hji18x : a2 ≤ 64 → (wrap64 (1 * 2 ^ a2.toNat)) = ji18 := fun h_ => (i64_w _).symm.trans (hji18z h_)
     replace H := Option.bind_eq_some_iff.mp H
     obtain ⟨⟨t110, t111⟩, A190, H⟩ := H
     replace H : (if t103 = 0 then (if t105 = 0 then (if t107 = 0 then (if t109 = 0 then (if t111 = 0 then (if a0 > a1 then (if t108 = (wrap64 (t102 + 16)) then (if t110 = (wrap64 (16 * a2)) then (if t106 = (wrap64 (t102 + t104)) then ((earshotlaw03_known.f kj3).bind fun t112 => (some t112)) else (if t106 = (wrap64 ((wrap64 (t102 + t104)) + 1)) then ((earshotlaw03_known.f kj3).bind fun t113 => (some t113)) else (some false))) else (some false)) else (some false)) else (if t102 ≤ t104 then (if t108 = (wrap64 (t102 + 16)) then (if t110 = (wrap64 (16 * a2)) then (if t106 = (wrap64 (t102 + t104)) then ((earshotlaw03_known.f kj3).bind fun t114 => (some t114)) else (if t106 = (wrap64 ((wrap64 (t102 + t104)) + 1)) then ((earshotlaw03_known.f kj3).bind fun t115 => (some t115)) else (some false))) else (some false)) else (some false)) else (some false))) else (some false)) else (some false)) else (some false)) else (some false)) else (some false)) = some r := H
     have A19 := Aside0.mk A190
     clear A190
     by_cases c20 : t103 = 0
     ·rw [if_pos c20] at H
      have c20b0 : (t103 == 0) = true := beq_iff_eq.mpr c20
      have c20b1 : (t103 != 0) = false := bne_eq_false_iff_eq.mpr c20
      clear c20
      by_cases c21 : t105 = 0
      ·rw [if_pos c21] at H
       have c21b0 : (t105 == 0) = true := beq_iff_eq.mpr c21
       have c21b1 : (t105 != 0) = false := bne_eq_false_iff_eq.mpr c21
       clear c21
       by_cases c22 : t107 = 0
       ·rw [if_pos c22] at H
        have c22b0 : (t107 == 0) = true := beq_iff_eq.mpr c22
        have c22b1 : (t107 != 0) = false := bne_eq_false_iff_eq.mpr c22
        clear c22
        by_cases c23 : t109 = 0
        ·rw [if_pos c23] at H
         have c23b0 : (t109 == 0) = true := beq_iff_eq.mpr c23
         have c23b1 : (t109 != 0) = false := bne_eq_false_iff_eq.mpr c23
         clear c23
         by_cases c24 : t111 = 0
         ·rw [if_pos c24] at H
          have c24b0 : (t111 == 0) = true := beq_iff_eq.mpr c24
          have c24b1 : (t111 != 0) = false := bne_eq_false_iff_eq.mpr c24
          clear c24
          by_cases c25 : a0 > a1
          ·rw [if_pos c25] at H
           have c25b0 : decide (a1 < a0) = true := decide_eq_true c25
           clear c25
           by_cases c26 : t108 = (wrap64 (t102 + 16))
           ·rw [if_pos c26] at H
            have c26b0 : (t108 == (wrap64 (t102 + 16))) = true := beq_iff_eq.mpr c26
            have c26b1 : (t108 != (wrap64 (t102 + 16))) = false := bne_eq_false_iff_eq.mpr c26
            clear c26
            by_cases c27 : t110 = (wrap64 (16 * a2))
            ·rw [if_pos c27] at H
             have c27b0 : (t110 == (wrap64 (16 * a2))) = true := beq_iff_eq.mpr c27
             have c27b1 : (t110 != (wrap64 (16 * a2))) = false := bne_eq_false_iff_eq.mpr c27
             clear c27
             by_cases c28 : t106 = (wrap64 (t102 + t104))
             ·rw [if_pos c28] at H
              have c28b0 : (t106 == (wrap64 (t102 + t104))) = true := beq_iff_eq.mpr c28
              have c28b1 : (t106 != (wrap64 (t102 + t104))) = false := bne_eq_false_iff_eq.mpr c28
              clear c28
              replace H := Option.bind_eq_some_iff.mp H
              obtain ⟨t112, A290, H⟩ := H
              replace H : (some t112) = some r := H
              have A29 := Aside0.mk A290
              clear A290
              obtain rfl := Option.some.inj H
              go_wp2_with (first | ((with_reducible refine gate_callee (f := 30) rfl ?_); refine goesL_ (some 42) rfl rfl Tryd.func30 (by kernel_rfl) rfl #[.int .i64 a0] rfl (by (try simp only [List.map_toArray, List.map_cons, List.map_nil]); first | done | rfl | (simp only [List.length_drop, List.length_take]; rfl)) ?_; (with_reducible refine (feature_Log.calls kj3 a0 t102 t103 _ A13.out).mono ?_); rintro e w30 ⟨rfl, hb⟩; refine ⟨_, rfl, ?_⟩; have n0_ := Aside0.mk (below_step (by repeat (first | (with_reducible first | exact HB.out | apply below_alloc | apply pw_below_drewN | apply below_drew1) | exact HB.out)) hb); clear HB; have HB := n0_; clear n0_; (try clear hb); (try clear hb2); (try clear hk); (try clear hi)) | ((with_reducible refine gate_callee (f := 30) rfl ?_); refine goesL_ (some 47) rfl rfl Tryd.func30 (by kernel_rfl) rfl #[.int .i64 a1] rfl (by (try simp only [List.map_toArray, List.map_cons, List.map_nil]); first | done | rfl | (simp only [List.length_drop, List.length_take]; rfl)) ?_; (with_reducible refine (feature_Log.calls kj3 a1 t104 t105 _ A14.out).mono ?_); rintro e w31 ⟨rfl, hb⟩; refine ⟨_, rfl, ?_⟩; have n0_ := Aside0.mk (below_step (by repeat (first | (with_reducible first | exact HB.out | apply below_alloc | apply pw_below_drewN | apply below_drew1) | exact HB.out)) hb); clear HB; have HB := n0_; clear n0_; (try clear hb); (try clear hb2); (try clear hk); (try clear hi)) | ((with_reducible refine gate_callee (f := 30) rfl ?_); refine goesL_ (some 54) rfl rfl Tryd.func30 (by kernel_rfl) rfl #[.int .i64 (wrap64 (a0 * a1))] rfl (by (try simp only [List.map_toArray, List.map_cons, List.map_nil]); first | done | rfl | (simp only [List.length_drop, List.length_take]; rfl)) ?_; (with_reducible refine (feature_Log.calls kj3 (wrap64 (a0 * a1)) t106 t107 _ A15.out).mono ?_); rintro e w32 ⟨rfl, hb⟩; refine ⟨_, rfl, ?_⟩; have n0_ := Aside0.mk (below_step (by repeat (first | (with_reducible first | exact HB.out | apply below_alloc | apply pw_below_drewN | apply below_drew1) | exact HB.out)) hb); clear HB; have HB := n0_; clear n0_; (try clear hb); (try clear hb2); (try clear hk); (try clear hi)) | ((with_reducible refine gate_callee (f := 30) rfl ?_); refine goesL_ (some 60) rfl rfl Tryd.func30 (by kernel_rfl) rfl #[.int .i64 (wrap64 (2 * a0))] rfl (by (try simp only [List.map_toArray, List.map_cons, List.map_nil]); first | done | rfl | (simp only [List.length_drop, List.length_take]; rfl)) ?_; (with_reducible refine (feature_Log.calls kj3 (wrap64 (2 * a0)) t108 t109 _ A16.out).mono ?_); rintro e w33 ⟨rfl, hb⟩; refine ⟨_, rfl, ?_⟩; have n0_ := Aside0.mk (below_step (by repeat (first | (with_reducible first | exact HB.out | apply below_alloc | apply pw_below_drewN | apply below_drew1) | exact HB.out)) hb); clear HB; have HB := n0_; clear n0_; (try clear hb); (try clear hb2); (try clear hk); (try clear hi)) | ((with_reducible refine gate_callee (f := 30) rfl ?_); refine goesL_ (some 66) rfl rfl Tryd.func30 (by kernel_rfl) rfl #[.int .i64 ji18] rfl (by (try simp only [List.map_toArray, List.map_cons, List.map_nil]); first | done | (simp only [hji18]; rfl) | rfl | (simp only [List.length_drop, List.length_take]; rfl)) ?_; (with_reducible refine (feature_Log.calls kj3 ji18 t110 t111 _ A19.out).mono ?_); rintro e w34 ⟨rfl, hb⟩; refine ⟨_, rfl, ?_⟩; have n0_ := Aside0.mk (below_step (by repeat (first | (with_reducible first | exact HB.out | apply below_alloc | apply pw_below_drewN | apply below_drew1) | exact HB.out)) hb); clear HB; have HB := n0_; clear n0_; (try clear hb); (try clear hb2); (try clear hk); (try clear hi)) | (go_at_call 22; (with_reducible refine (earshotlaw03_known.calls kj3  t112 _ ?side1 A29.out).mono ?_); (case side1 => repeat (first | exact (Kd.C_below HRT.out HB.out) | (with_reducible refine Kd.C_alloc ?_ _) | (with_reducible refine Kd.C_drewN ?_ _) | (with_reducible refine Kd.C_drew ?_))); rintro e w35 ⟨rfl, hb⟩; have n0_ := Aside0.mk (below_step (by repeat (first | (with_reducible first | exact HB.out | apply below_alloc | apply pw_below_drewN | apply below_drew1) | exact HB.out)) hb); clear HB; have HB := n0_; clear n0_; (try clear hb); (try clear hb2); (try clear hk); (try clear hi)))
              go_ret
              exact ⟨by first | rfl | (simp [errW_none, errW_some] <;> rfl) | (simp only [← hji18]; first | rfl | (simp [errW_none, errW_some] <;> rfl)) | (simp [*, errW_none, errW_some] <;> rfl), by repeat (first | (with_reducible first | exact HB.out | apply below_alloc | apply pw_below_drewN | apply below_drew1) | exact HB.out)⟩
             ·rw [if_neg c28] at H
              have c28b0 : (t106 == (wrap64 (t102 + t104))) = false := beq_eq_false_iff_ne.mpr c28
              have c28b1 : (t106 != (wrap64 (t102 + t104))) = true := bne_iff_ne.mpr c28
              by_cases c36 : t106 = (wrap64 ((wrap64 (t102 + t104)) + 1))
              ·rw [if_pos c36] at H
               have c36b0 : (t106 == (wrap64 ((wrap64 (t102 + t104)) + 1))) = true := beq_iff_eq.mpr c36
               have c36b1 : (t106 != (wrap64 ((wrap64 (t102 + t104)) + 1))) = false := bne_eq_false_iff_eq.mpr c36
               clear c36
               replace H := Option.bind_eq_some_iff.mp H
               obtain ⟨t113, A370, H⟩ := H
               replace H : (some t113) = some r := H
               have A37 := Aside0.mk A370
               clear A370
               obtain rfl := Option.some.inj H
               go_wp2_with (first | ((with_reducible refine gate_callee (f := 30) rfl ?_); refine goesL_ (some 42) rfl rfl Tryd.func30 (by kernel_rfl) rfl #[.int .i64 a0] rfl (by (try simp only [List.map_toArray, List.map_cons, List.map_nil]); first | done | rfl | (simp only [List.length_drop, List.length_take]; rfl)) ?_; (with_reducible refine (feature_Log.calls kj3 a0 t102 t103 _ A13.out).mono ?_); rintro e w38 ⟨rfl, hb⟩; refine ⟨_, rfl, ?_⟩; have n0_ := Aside0.mk (below_step (by repeat (first | (with_reducible first | exact HB.out | apply below_alloc | apply pw_below_drewN | apply below_drew1) | exact HB.out)) hb); clear HB; have HB := n0_; clear n0_; (try clear hb); (try clear hb2); (try clear hk); (try clear hi)) | ((with_reducible refine gate_callee (f := 30) rfl ?_); refine goesL_ (some 47) rfl rfl Tryd.func30 (by kernel_rfl) rfl #[.int .i64 a1] rfl (by (try simp only [List.map_toArray, List.map_cons, List.map_nil]); first | done | rfl | (simp only [List.length_drop, List.length_take]; rfl)) ?_; (with_reducible refine (feature_Log.calls kj3 a1 t104 t105 _ A14.out).mono ?_); rintro e w39 ⟨rfl, hb⟩; refine ⟨_, rfl, ?_⟩; have n0_ := Aside0.mk (below_step (by repeat (first | (with_reducible first | exact HB.out | apply below_alloc | apply pw_below_drewN | apply below_drew1) | exact HB.out)) hb); clear HB; have HB := n0_; clear n0_; (try clear hb); (try clear hb2); (try clear hk); (try clear hi)) | ((with_reducible refine gate_callee (f := 30) rfl ?_); refine goesL_ (some 54) rfl rfl Tryd.func30 (by kernel_rfl) rfl #[.int .i64 (wrap64 (a0 * a1))] rfl (by (try simp only [List.map_toArray, List.map_cons, List.map_nil]); first | done | rfl | (simp only [List.length_drop, List.length_take]; rfl)) ?_; (with_reducible refine (feature_Log.calls kj3 (wrap64 (a0 * a1)) t106 t107 _ A15.out).mono ?_); rintro e w40 ⟨rfl, hb⟩; refine ⟨_, rfl, ?_⟩; have n0_ := Aside0.mk (below_step (by repeat (first | (with_reducible first | exact HB.out | apply below_alloc | apply pw_below_drewN | apply below_drew1) | exact HB.out)) hb); clear HB; have HB := n0_; clear n0_; (try clear hb); (try clear hb2); (try clear hk); (try clear hi)) | ((with_reducible refine gate_callee (f := 30) rfl ?_); refine goesL_ (some 60) rfl rfl Tryd.func30 (by kernel_rfl) rfl #[.int .i64 (wrap64 (2 * a0))] rfl (by (try simp only [List.map_toArray, List.map_cons, List.map_nil]); first | done | rfl | (simp only [List.length_drop, List.length_take]; rfl)) ?_; (with_reducible refine (feature_Log.calls kj3 (wrap64 (2 * a0)) t108 t109 _ A16.out).mono ?_); rintro e w41 ⟨rfl, hb⟩; refine ⟨_, rfl, ?_⟩; have n0_ := Aside0.mk (below_step (by repeat (first | (with_reducible first | exact HB.out | apply below_alloc | apply pw_below_drewN | apply below_drew1) | exact HB.out)) hb); clear HB; have HB := n0_; clear n0_; (try clear hb); (try clear hb2); (try clear hk); (try clear hi)) | ((with_reducible refine gate_callee (f := 30) rfl ?_); refine goesL_ (some 66) rfl rfl Tryd.func30 (by kernel_rfl) rfl #[.int .i64 ji18] rfl (by (try simp only [List.map_toArray, List.map_cons, List.map_nil]); first | done | (simp only [hji18]; rfl) | rfl | (simp only [List.length_drop, List.length_take]; rfl)) ?_; (with_reducible refine (feature_Log.calls kj3 ji18 t110 t111 _ A19.out).mono ?_); rintro e w42 ⟨rfl, hb⟩; refine ⟨_, rfl, ?_⟩; have n0_ := Aside0.mk (below_step (by repeat (first | (with_reducible first | exact HB.out | apply below_alloc | apply pw_below_drewN | apply below_drew1) | exact HB.out)) hb); clear HB; have HB := n0_; clear n0_; (try clear hb); (try clear hb2); (try clear hk); (try clear hi)) | (go_at_call 22; (with_reducible refine (earshotlaw03_known.calls kj3  t113 _ ?side1 A37.out).mono ?_); (case side1 => repeat (first | exact (Kd.C_below HRT.out HB.out) | (with_reducible refine Kd.C_alloc ?_ _) | (with_reducible refine Kd.C_drewN ?_ _) | (with_reducible refine Kd.C_drew ?_))); rintro e w43 ⟨rfl, hb⟩; have n0_ := Aside0.mk (below_step (by repeat (first | (with_reducible first | exact HB.out | apply below_alloc | apply pw_below_drewN | apply below_drew1) | exact HB.out)) hb); clear HB; have HB := n0_; clear n0_; (try clear hb); (try clear hb2); (try clear hk); (try clear hi)))
               go_ret
               exact ⟨by first | rfl | (simp [errW_none, errW_some] <;> rfl) | (simp only [← hji18]; first | rfl | (simp [errW_none, errW_some] <;> rfl)) | (simp [*, errW_none, errW_some] <;> rfl), by repeat (first | (with_reducible first | exact HB.out | apply below_alloc | apply pw_below_drewN | apply below_drew1) | exact HB.out)⟩
              ·rw [if_neg c36] at H
               have c36b0 : (t106 == (wrap64 ((wrap64 (t102 + t104)) + 1))) = false := beq_eq_false_iff_ne.mpr c36
               have c36b1 : (t106 != (wrap64 ((wrap64 (t102 + t104)) + 1))) = true := bne_iff_ne.mpr c36
               obtain rfl := Option.some.inj H
               go_wp2_with (first | ((with_reducible refine gate_callee (f := 30) rfl ?_); refine goesL_ (some 42) rfl rfl Tryd.func30 (by kernel_rfl) rfl #[.int .i64 a0] rfl (by (try simp only [List.map_toArray, List.map_cons, List.map_nil]); first | done | rfl | (simp only [List.length_drop, List.length_take]; rfl)) ?_; (with_reducible refine (feature_Log.calls kj3 a0 t102 t103 _ A13.out).mono ?_); rintro e w44 ⟨rfl, hb⟩; refine ⟨_, rfl, ?_⟩; have n0_ := Aside0.mk (below_step (by repeat (first | (with_reducible first | exact HB.out | apply below_alloc | apply pw_below_drewN | apply below_drew1) | exact HB.out)) hb); clear HB; have HB := n0_; clear n0_; (try clear hb); (try clear hb2); (try clear hk); (try clear hi)) | ((with_reducible refine gate_callee (f := 30) rfl ?_); refine goesL_ (some 47) rfl rfl Tryd.func30 (by kernel_rfl) rfl #[.int .i64 a1] rfl (by (try simp only [List.map_toArray, List.map_cons, List.map_nil]); first | done | rfl | (simp only [List.length_drop, List.length_take]; rfl)) ?_; (with_reducible refine (feature_Log.calls kj3 a1 t104 t105 _ A14.out).mono ?_); rintro e w45 ⟨rfl, hb⟩; refine ⟨_, rfl, ?_⟩; have n0_ := Aside0.mk (below_step (by repeat (first | (with_reducible first | exact HB.out | apply below_alloc | apply pw_below_drewN | apply below_drew1) | exact HB.out)) hb); clear HB; have HB := n0_; clear n0_; (try clear hb); (try clear hb2); (try clear hk); (try clear hi)) | ((with_reducible refine gate_callee (f := 30) rfl ?_); refine goesL_ (some 54) rfl rfl Tryd.func30 (by kernel_rfl) rfl #[.int .i64 (wrap64 (a0 * a1))] rfl (by (try simp only [List.map_toArray, List.map_cons, List.map_nil]); first | done | rfl | (simp only [List.length_drop, List.length_take]; rfl)) ?_; (with_reducible refine (feature_Log.calls kj3 (wrap64 (a0 * a1)) t106 t107 _ A15.out).mono ?_); rintro e w46 ⟨rfl, hb⟩; refine ⟨_, rfl, ?_⟩; have n0_ := Aside0.mk (below_step (by repeat (first | (with_reducible first | exact HB.out | apply below_alloc | apply pw_below_drewN | apply below_drew1) | exact HB.out)) hb); clear HB; have HB := n0_; clear n0_; (try clear hb); (try clear hb2); (try clear hk); (try clear hi)) | ((with_reducible refine gate_callee (f := 30) rfl ?_); refine goesL_ (some 60) rfl rfl Tryd.func30 (by kernel_rfl) rfl #[.int .i64 (wrap64 (2 * a0))] rfl (by (try simp only [List.map_toArray, List.map_cons, List.map_nil]); first | done | rfl | (simp only [List.length_drop, List.length_take]; rfl)) ?_; (with_reducible refine (feature_Log.calls kj3 (wrap64 (2 * a0)) t108 t109 _ A16.out).mono ?_); rintro e w47 ⟨rfl, hb⟩; refine ⟨_, rfl, ?_⟩; have n0_ := Aside0.mk (below_step (by repeat (first | (with_reducible first | exact HB.out | apply below_alloc | apply pw_below_drewN | apply below_drew1) | exact HB.out)) hb); clear HB; have HB := n0_; clear n0_; (try clear hb); (try clear hb2); (try clear hk); (try clear hi)) | ((with_reducible refine gate_callee (f := 30) rfl ?_); refine goesL_ (some 66) rfl rfl Tryd.func30 (by kernel_rfl) rfl #[.int .i64 ji18] rfl (by (try simp only [List.map_toArray, List.map_cons, List.map_nil]); first | done | (simp only [hji18]; rfl) | rfl | (simp only [List.length_drop, List.length_take]; rfl)) ?_; (with_reducible refine (feature_Log.calls kj3 ji18 t110 t111 _ A19.out).mono ?_); rintro e w48 ⟨rfl, hb⟩; refine ⟨_, rfl, ?_⟩; have n0_ := Aside0.mk (below_step (by repeat (first | (with_reducible first | exact HB.out | apply below_alloc | apply pw_below_drewN | apply below_drew1) | exact HB.out)) hb); clear HB; have HB := n0_; clear n0_; (try clear hb); (try clear hb2); (try clear hk); (try clear hi)))
               go_ret
               exact ⟨by first | rfl | (simp [errW_none, errW_some] <;> rfl) | (simp only [← hji18]; first | rfl | (simp [errW_none, errW_some] <;> rfl)) | (simp [*, errW_none, errW_some] <;> rfl), by repeat (first | (with_reducible first | exact HB.out | apply below_alloc | apply pw_below_drewN | apply below_drew1) | exact HB.out)⟩
            ·rw [if_neg c27] at H
             have c27b0 : (t110 == (wrap64 (16 * a2))) = false := beq_eq_false_iff_ne.mpr c27
             have c27b1 : (t110 != (wrap64 (16 * a2))) = true := bne_iff_ne.mpr c27
             obtain rfl := Option.some.inj H
             go_wp2_with (first | ((with_reducible refine gate_callee (f := 30) rfl ?_); refine goesL_ (some 42) rfl rfl Tryd.func30 (by kernel_rfl) rfl #[.int .i64 a0] rfl (by (try simp only [List.map_toArray, List.map_cons, List.map_nil]); first | done | rfl | (simp only [List.length_drop, List.length_take]; rfl)) ?_; (with_reducible refine (feature_Log.calls kj3 a0 t102 t103 _ A13.out).mono ?_); rintro e w49 ⟨rfl, hb⟩; refine ⟨_, rfl, ?_⟩; have n0_ := Aside0.mk (below_step (by repeat (first | (with_reducible first | exact HB.out | apply below_alloc | apply pw_below_drewN | apply below_drew1) | exact HB.out)) hb); clear HB; have HB := n0_; clear n0_; (try clear hb); (try clear hb2); (try clear hk); (try clear hi)) | ((with_reducible refine gate_callee (f := 30) rfl ?_); refine goesL_ (some 47) rfl rfl Tryd.func30 (by kernel_rfl) rfl #[.int .i64 a1] rfl (by (try simp only [List.map_toArray, List.map_cons, List.map_nil]); first | done | rfl | (simp only [List.length_drop, List.length_take]; rfl)) ?_; (with_reducible refine (feature_Log.calls kj3 a1 t104 t105 _ A14.out).mono ?_); rintro e w50 ⟨rfl, hb⟩; refine ⟨_, rfl, ?_⟩; have n0_ := Aside0.mk (below_step (by repeat (first | (with_reducible first | exact HB.out | apply below_alloc | apply pw_below_drewN | apply below_drew1) | exact HB.out)) hb); clear HB; have HB := n0_; clear n0_; (try clear hb); (try clear hb2); (try clear hk); (try clear hi)) | ((with_reducible refine gate_callee (f := 30) rfl ?_); refine goesL_ (some 54) rfl rfl Tryd.func30 (by kernel_rfl) rfl #[.int .i64 (wrap64 (a0 * a1))] rfl (by (try simp only [List.map_toArray, List.map_cons, List.map_nil]); first | done | rfl | (simp only [List.length_drop, List.length_take]; rfl)) ?_; (with_reducible refine (feature_Log.calls kj3 (wrap64 (a0 * a1)) t106 t107 _ A15.out).mono ?_); rintro e w51 ⟨rfl, hb⟩; refine ⟨_, rfl, ?_⟩; have n0_ := Aside0.mk (below_step (by repeat (first | (with_reducible first | exact HB.out | apply below_alloc | apply pw_below_drewN | apply below_drew1) | exact HB.out)) hb); clear HB; have HB := n0_; clear n0_; (try clear hb); (try clear hb2); (try clear hk); (try clear hi)) | ((with_reducible refine gate_callee (f := 30) rfl ?_); refine goesL_ (some 60) rfl rfl Tryd.func30 (by kernel_rfl) rfl #[.int .i64 (wrap64 (2 * a0))] rfl (by (try simp only [List.map_toArray, List.map_cons, List.map_nil]); first | done | rfl | (simp only [List.length_drop, List.length_take]; rfl)) ?_; (with_reducible refine (feature_Log.calls kj3 (wrap64 (2 * a0)) t108 t109 _ A16.out).mono ?_); rintro e w52 ⟨rfl, hb⟩; refine ⟨_, rfl, ?_⟩; have n0_ := Aside0.mk (below_step (by repeat (first | (with_reducible first | exact HB.out | apply below_alloc | apply pw_below_drewN | apply below_drew1) | exact HB.out)) hb); clear HB; have HB := n0_; clear n0_; (try clear hb); (try clear hb2); (try clear hk); (try clear hi)) | ((with_reducible refine gate_callee (f := 30) rfl ?_); refine goesL_ (some 66) rfl rfl Tryd.func30 (by kernel_rfl) rfl #[.int .i64 ji18] rfl (by (try simp only [List.map_toArray, List.map_cons, List.map_nil]); first | done | (simp only [hji18]; rfl) | rfl | (simp only [List.length_drop, List.length_take]; rfl)) ?_; (with_reducible refine (feature_Log.calls kj3 ji18 t110 t111 _ A19.out).mono ?_); rintro e w53 ⟨rfl, hb⟩; refine ⟨_, rfl, ?_⟩; have n0_ := Aside0.mk (below_step (by repeat (first | (with_reducible first | exact HB.out | apply below_alloc | apply pw_below_drewN | apply below_drew1) | exact HB.out)) hb); clear HB; have HB := n0_; clear n0_; (try clear hb); (try clear hb2); (try clear hk); (try clear hi)))
             go_ret
             exact ⟨by first | rfl | (simp [errW_none, errW_some] <;> rfl) | (simp only [← hji18]; first | rfl | (simp [errW_none, errW_some] <;> rfl)) | (simp [*, errW_none, errW_some] <;> rfl), by repeat (first | (with_reducible first | exact HB.out | apply below_alloc | apply pw_below_drewN | apply below_drew1) | exact HB.out)⟩
           ·rw [if_neg c26] at H
            have c26b0 : (t108 == (wrap64 (t102 + 16))) = false := beq_eq_false_iff_ne.mpr c26
            have c26b1 : (t108 != (wrap64 (t102 + 16))) = true := bne_iff_ne.mpr c26
            obtain rfl := Option.some.inj H
            go_wp2_with (first | ((with_reducible refine gate_callee (f := 30) rfl ?_); refine goesL_ (some 42) rfl rfl Tryd.func30 (by kernel_rfl) rfl #[.int .i64 a0] rfl (by (try simp only [List.map_toArray, List.map_cons, List.map_nil]); first | done | rfl | (simp only [List.length_drop, List.length_take]; rfl)) ?_; (with_reducible refine (feature_Log.calls kj3 a0 t102 t103 _ A13.out).mono ?_); rintro e w54 ⟨rfl, hb⟩; refine ⟨_, rfl, ?_⟩; have n0_ := Aside0.mk (below_step (by repeat (first | (with_reducible first | exact HB.out | apply below_alloc | apply pw_below_drewN | apply below_drew1) | exact HB.out)) hb); clear HB; have HB := n0_; clear n0_; (try clear hb); (try clear hb2); (try clear hk); (try clear hi)) | ((with_reducible refine gate_callee (f := 30) rfl ?_); refine goesL_ (some 47) rfl rfl Tryd.func30 (by kernel_rfl) rfl #[.int .i64 a1] rfl (by (try simp only [List.map_toArray, List.map_cons, List.map_nil]); first | done | rfl | (simp only [List.length_drop, List.length_take]; rfl)) ?_; (with_reducible refine (feature_Log.calls kj3 a1 t104 t105 _ A14.out).mono ?_); rintro e w55 ⟨rfl, hb⟩; refine ⟨_, rfl, ?_⟩; have n0_ := Aside0.mk (below_step (by repeat (first | (with_reducible first | exact HB.out | apply below_alloc | apply pw_below_drewN | apply below_drew1) | exact HB.out)) hb); clear HB; have HB := n0_; clear n0_; (try clear hb); (try clear hb2); (try clear hk); (try clear hi)) | ((with_reducible refine gate_callee (f := 30) rfl ?_); refine goesL_ (some 54) rfl rfl Tryd.func30 (by kernel_rfl) rfl #[.int .i64 (wrap64 (a0 * a1))] rfl (by (try simp only [List.map_toArray, List.map_cons, List.map_nil]); first | done | rfl | (simp only [List.length_drop, List.length_take]; rfl)) ?_; (with_reducible refine (feature_Log.calls kj3 (wrap64 (a0 * a1)) t106 t107 _ A15.out).mono ?_); rintro e w56 ⟨rfl, hb⟩; refine ⟨_, rfl, ?_⟩; have n0_ := Aside0.mk (below_step (by repeat (first | (with_reducible first | exact HB.out | apply below_alloc | apply pw_below_drewN | apply below_drew1) | exact HB.out)) hb); clear HB; have HB := n0_; clear n0_; (try clear hb); (try clear hb2); (try clear hk); (try clear hi)) | ((with_reducible refine gate_callee (f := 30) rfl ?_); refine goesL_ (some 60) rfl rfl Tryd.func30 (by kernel_rfl) rfl #[.int .i64 (wrap64 (2 * a0))] rfl (by (try simp only [List.map_toArray, List.map_cons, List.map_nil]); first | done | rfl | (simp only [List.length_drop, List.length_take]; rfl)) ?_; (with_reducible refine (feature_Log.calls kj3 (wrap64 (2 * a0)) t108 t109 _ A16.out).mono ?_); rintro e w57 ⟨rfl, hb⟩; refine ⟨_, rfl, ?_⟩; have n0_ := Aside0.mk (below_step (by repeat (first | (with_reducible first | exact HB.out | apply below_alloc | apply pw_below_drewN | apply below_drew1) | exact HB.out)) hb); clear HB; have HB := n0_; clear n0_; (try clear hb); (try clear hb2); (try clear hk); (try clear hi)) | ((with_reducible refine gate_callee (f := 30) rfl ?_); refine goesL_ (some 66) rfl rfl Tryd.func30 (by kernel_rfl) rfl #[.int .i64 ji18] rfl (by (try simp only [List.map_toArray, List.map_cons, List.map_nil]); first | done | (simp only [hji18]; rfl) | rfl | (simp only [List.length_drop, List.length_take]; rfl)) ?_; (with_reducible refine (feature_Log.calls kj3 ji18 t110 t111 _ A19.out).mono ?_); rintro e w58 ⟨rfl, hb⟩; refine ⟨_, rfl, ?_⟩; have n0_ := Aside0.mk (below_step (by repeat (first | (with_reducible first | exact HB.out | apply below_alloc | apply pw_below_drewN | apply below_drew1) | exact HB.out)) hb); clear HB; have HB := n0_; clear n0_; (try clear hb); (try clear hb2); (try clear hk); (try clear hi)))
            go_ret
            exact ⟨by first | rfl | (simp [errW_none, errW_some] <;> rfl) | (simp only [← hji18]; first | rfl | (simp [errW_none, errW_some] <;> rfl)) | (simp [*, errW_none, errW_some] <;> rfl), by repeat (first | (with_reducible first | exact HB.out | apply below_alloc | apply pw_below_drewN | apply below_drew1) | exact HB.out)⟩
          ·rw [if_neg c25] at H
           have c25b0 : decide (a1 < a0) = false := decide_eq_false c25
           clear c25
           by_cases c59 : t102 ≤ t104
           ·rw [if_pos c59] at H
            have c59b0 : decide (t102 ≤ t104) = true := decide_eq_true c59
            clear c59
            by_cases c60 : t108 = (wrap64 (t102 + 16))
            ·rw [if_pos c60] at H
             have c60b0 : (t108 == (wrap64 (t102 + 16))) = true := beq_iff_eq.mpr c60
             have c60b1 : (t108 != (wrap64 (t102 + 16))) = false := bne_eq_false_iff_eq.mpr c60
             clear c60
             by_cases c61 : t110 = (wrap64 (16 * a2))
             ·rw [if_pos c61] at H
              have c61b0 : (t110 == (wrap64 (16 * a2))) = true := beq_iff_eq.mpr c61
              have c61b1 : (t110 != (wrap64 (16 * a2))) = false := bne_eq_false_iff_eq.mpr c61
              clear c61
              by_cases c62 : t106 = (wrap64 (t102 + t104))
              ·rw [if_pos c62] at H
               have c62b0 : (t106 == (wrap64 (t102 + t104))) = true := beq_iff_eq.mpr c62
               have c62b1 : (t106 != (wrap64 (t102 + t104))) = false := bne_eq_false_iff_eq.mpr c62
               clear c62
               replace H := Option.bind_eq_some_iff.mp H
               obtain ⟨t114, A630, H⟩ := H
               replace H : (some t114) = some r := H
               have A63 := Aside0.mk A630
               clear A630
               obtain rfl := Option.some.inj H
               go_wp2_with (first | ((with_reducible refine gate_callee (f := 30) rfl ?_); refine goesL_ (some 42) rfl rfl Tryd.func30 (by kernel_rfl) rfl #[.int .i64 a0] rfl (by (try simp only [List.map_toArray, List.map_cons, List.map_nil]); first | done | rfl | (simp only [List.length_drop, List.length_take]; rfl)) ?_; (with_reducible refine (feature_Log.calls kj3 a0 t102 t103 _ A13.out).mono ?_); rintro e w64 ⟨rfl, hb⟩; refine ⟨_, rfl, ?_⟩; have n0_ := Aside0.mk (below_step (by repeat (first | (with_reducible first | exact HB.out | apply below_alloc | apply pw_below_drewN | apply below_drew1) | exact HB.out)) hb); clear HB; have HB := n0_; clear n0_; (try clear hb); (try clear hb2); (try clear hk); (try clear hi)) | ((with_reducible refine gate_callee (f := 30) rfl ?_); refine goesL_ (some 47) rfl rfl Tryd.func30 (by kernel_rfl) rfl #[.int .i64 a1] rfl (by (try simp only [List.map_toArray, List.map_cons, List.map_nil]); first | done | rfl | (simp only [List.length_drop, List.length_take]; rfl)) ?_; (with_reducible refine (feature_Log.calls kj3 a1 t104 t105 _ A14.out).mono ?_); rintro e w65 ⟨rfl, hb⟩; refine ⟨_, rfl, ?_⟩; have n0_ := Aside0.mk (below_step (by repeat (first | (with_reducible first | exact HB.out | apply below_alloc | apply pw_below_drewN | apply below_drew1) | exact HB.out)) hb); clear HB; have HB := n0_; clear n0_; (try clear hb); (try clear hb2); (try clear hk); (try clear hi)) | ((with_reducible refine gate_callee (f := 30) rfl ?_); refine goesL_ (some 54) rfl rfl Tryd.func30 (by kernel_rfl) rfl #[.int .i64 (wrap64 (a0 * a1))] rfl (by (try simp only [List.map_toArray, List.map_cons, List.map_nil]); first | done | rfl | (simp only [List.length_drop, List.length_take]; rfl)) ?_; (with_reducible refine (feature_Log.calls kj3 (wrap64 (a0 * a1)) t106 t107 _ A15.out).mono ?_); rintro e w66 ⟨rfl, hb⟩; refine ⟨_, rfl, ?_⟩; have n0_ := Aside0.mk (below_step (by repeat (first | (with_reducible first | exact HB.out | apply below_alloc | apply pw_below_drewN | apply below_drew1) | exact HB.out)) hb); clear HB; have HB := n0_; clear n0_; (try clear hb); (try clear hb2); (try clear hk); (try clear hi)) | ((with_reducible refine gate_callee (f := 30) rfl ?_); refine goesL_ (some 60) rfl rfl Tryd.func30 (by kernel_rfl) rfl #[.int .i64 (wrap64 (2 * a0))] rfl (by (try simp only [List.map_toArray, List.map_cons, List.map_nil]); first | done | rfl | (simp only [List.length_drop, List.length_take]; rfl)) ?_; (with_reducible refine (feature_Log.calls kj3 (wrap64 (2 * a0)) t108 t109 _ A16.out).mono ?_); rintro e w67 ⟨rfl, hb⟩; refine ⟨_, rfl, ?_⟩; have n0_ := Aside0.mk (below_step (by repeat (first | (with_reducible first | exact HB.out | apply below_alloc | apply pw_below_drewN | apply below_drew1) | exact HB.out)) hb); clear HB; have HB := n0_; clear n0_; (try clear hb); (try clear hb2); (try clear hk); (try clear hi)) | ((with_reducible refine gate_callee (f := 30) rfl ?_); refine goesL_ (some 66) rfl rfl Tryd.func30 (by kernel_rfl) rfl #[.int .i64 ji18] rfl (by (try simp only [List.map_toArray, List.map_cons, List.map_nil]); first | done | (simp only [hji18]; rfl) | rfl | (simp only [List.length_drop, List.length_take]; rfl)) ?_; (with_reducible refine (feature_Log.calls kj3 ji18 t110 t111 _ A19.out).mono ?_); rintro e w68 ⟨rfl, hb⟩; refine ⟨_, rfl, ?_⟩; have n0_ := Aside0.mk (below_step (by repeat (first | (with_reducible first | exact HB.out | apply below_alloc | apply pw_below_drewN | apply below_drew1) | exact HB.out)) hb); clear HB; have HB := n0_; clear n0_; (try clear hb); (try clear hb2); (try clear hk); (try clear hi)) | (go_at_call 22; (with_reducible refine (earshotlaw03_known.calls kj3  t114 _ ?side1 A63.out).mono ?_); (case side1 => repeat (first | exact (Kd.C_below HRT.out HB.out) | (with_reducible refine Kd.C_alloc ?_ _) | (with_reducible refine Kd.C_drewN ?_ _) | (with_reducible refine Kd.C_drew ?_))); rintro e w69 ⟨rfl, hb⟩; have n0_ := Aside0.mk (below_step (by repeat (first | (with_reducible first | exact HB.out | apply below_alloc | apply pw_below_drewN | apply below_drew1) | exact HB.out)) hb); clear HB; have HB := n0_; clear n0_; (try clear hb); (try clear hb2); (try clear hk); (try clear hi)))
               go_ret
               exact ⟨by first | rfl | (simp [errW_none, errW_some] <;> rfl) | (simp only [← hji18]; first | rfl | (simp [errW_none, errW_some] <;> rfl)) | (simp [*, errW_none, errW_some] <;> rfl), by repeat (first | (with_reducible first | exact HB.out | apply below_alloc | apply pw_below_drewN | apply below_drew1) | exact HB.out)⟩
              ·rw [if_neg c62] at H
               have c62b0 : (t106 == (wrap64 (t102 + t104))) = false := beq_eq_false_iff_ne.mpr c62
               have c62b1 : (t106 != (wrap64 (t102 + t104))) = true := bne_iff_ne.mpr c62
               by_cases c70 : t106 = (wrap64 ((wrap64 (t102 + t104)) + 1))
               ·rw [if_pos c70] at H
                have c70b0 : (t106 == (wrap64 ((wrap64 (t102 + t104)) + 1))) = true := beq_iff_eq.mpr c70
                have c70b1 : (t106 != (wrap64 ((wrap64 (t102 + t104)) + 1))) = false := bne_eq_false_iff_eq.mpr c70
                clear c70
                replace H := Option.bind_eq_some_iff.mp H
                obtain ⟨t115, A710, H⟩ := H
                replace H : (some t115) = some r := H
                have A71 := Aside0.mk A710
                clear A710
                obtain rfl := Option.some.inj H
                go_wp2_with (first | ((with_reducible refine gate_callee (f := 30) rfl ?_); refine goesL_ (some 42) rfl rfl Tryd.func30 (by kernel_rfl) rfl #[.int .i64 a0] rfl (by (try simp only [List.map_toArray, List.map_cons, List.map_nil]); first | done | rfl | (simp only [List.length_drop, List.length_take]; rfl)) ?_; (with_reducible refine (feature_Log.calls kj3 a0 t102 t103 _ A13.out).mono ?_); rintro e w72 ⟨rfl, hb⟩; refine ⟨_, rfl, ?_⟩; have n0_ := Aside0.mk (below_step (by repeat (first | (with_reducible first | exact HB.out | apply below_alloc | apply pw_below_drewN | apply below_drew1) | exact HB.out)) hb); clear HB; have HB := n0_; clear n0_; (try clear hb); (try clear hb2); (try clear hk); (try clear hi)) | ((with_reducible refine gate_callee (f := 30) rfl ?_); refine goesL_ (some 47) rfl rfl Tryd.func30 (by kernel_rfl) rfl #[.int .i64 a1] rfl (by (try simp only [List.map_toArray, List.map_cons, List.map_nil]); first | done | rfl | (simp only [List.length_drop, List.length_take]; rfl)) ?_; (with_reducible refine (feature_Log.calls kj3 a1 t104 t105 _ A14.out).mono ?_); rintro e w73 ⟨rfl, hb⟩; refine ⟨_, rfl, ?_⟩; have n0_ := Aside0.mk (below_step (by repeat (first | (with_reducible first | exact HB.out | apply below_alloc | apply pw_below_drewN | apply below_drew1) | exact HB.out)) hb); clear HB; have HB := n0_; clear n0_; (try clear hb); (try clear hb2); (try clear hk); (try clear hi)) | ((with_reducible refine gate_callee (f := 30) rfl ?_); refine goesL_ (some 54) rfl rfl Tryd.func30 (by kernel_rfl) rfl #[.int .i64 (wrap64 (a0 * a1))] rfl (by (try simp only [List.map_toArray, List.map_cons, List.map_nil]); first | done | rfl | (simp only [List.length_drop, List.length_take]; rfl)) ?_; (with_reducible refine (feature_Log.calls kj3 (wrap64 (a0 * a1)) t106 t107 _ A15.out).mono ?_); rintro e w74 ⟨rfl, hb⟩; refine ⟨_, rfl, ?_⟩; have n0_ := Aside0.mk (below_step (by repeat (first | (with_reducible first | exact HB.out | apply below_alloc | apply pw_below_drewN | apply below_drew1) | exact HB.out)) hb); clear HB; have HB := n0_; clear n0_; (try clear hb); (try clear hb2); (try clear hk); (try clear hi)) | ((with_reducible refine gate_callee (f := 30) rfl ?_); refine goesL_ (some 60) rfl rfl Tryd.func30 (by kernel_rfl) rfl #[.int .i64 (wrap64 (2 * a0))] rfl (by (try simp only [List.map_toArray, List.map_cons, List.map_nil]); first | done | rfl | (simp only [List.length_drop, List.length_take]; rfl)) ?_; (with_reducible refine (feature_Log.calls kj3 (wrap64 (2 * a0)) t108 t109 _ A16.out).mono ?_); rintro e w75 ⟨rfl, hb⟩; refine ⟨_, rfl, ?_⟩; have n0_ := Aside0.mk (below_step (by repeat (first | (with_reducible first | exact HB.out | apply below_alloc | apply pw_below_drewN | apply below_drew1) | exact HB.out)) hb); clear HB; have HB := n0_; clear n0_; (try clear hb); (try clear hb2); (try clear hk); (try clear hi)) | ((with_reducible refine gate_callee (f := 30) rfl ?_); refine goesL_ (some 66) rfl rfl Tryd.func30 (by kernel_rfl) rfl #[.int .i64 ji18] rfl (by (try simp only [List.map_toArray, List.map_cons, List.map_nil]); first | done | (simp only [hji18]; rfl) | rfl | (simp only [List.length_drop, List.length_take]; rfl)) ?_; (with_reducible refine (feature_Log.calls kj3 ji18 t110 t111 _ A19.out).mono ?_); rintro e w76 ⟨rfl, hb⟩; refine ⟨_, rfl, ?_⟩; have n0_ := Aside0.mk (below_step (by repeat (first | (with_reducible first | exact HB.out | apply below_alloc | apply pw_below_drewN | apply below_drew1) | exact HB.out)) hb); clear HB; have HB := n0_; clear n0_; (try clear hb); (try clear hb2); (try clear hk); (try clear hi)) | (go_at_call 22; (with_reducible refine (earshotlaw03_known.calls kj3  t115 _ ?side1 A71.out).mono ?_); (case side1 => repeat (first | exact (Kd.C_below HRT.out HB.out) | (with_reducible refine Kd.C_alloc ?_ _) | (with_reducible refine Kd.C_drewN ?_ _) | (with_reducible refine Kd.C_drew ?_))); rintro e w77 ⟨rfl, hb⟩; have n0_ := Aside0.mk (below_step (by repeat (first | (with_reducible first | exact HB.out | apply below_alloc | apply pw_below_drewN | apply below_drew1) | exact HB.out)) hb); clear HB; have HB := n0_; clear n0_; (try clear hb); (try clear hb2); (try clear hk); (try clear hi)))
                go_ret
                exact ⟨by first | rfl | (simp [errW_none, errW_some] <;> rfl) | (simp only [← hji18]; first | rfl | (simp [errW_none, errW_some] <;> rfl)) | (simp [*, errW_none, errW_some] <;> rfl), by repeat (first | (with_reducible first | exact HB.out | apply below_alloc | apply pw_below_drewN | apply below_drew1) | exact HB.out)⟩
               ·rw [if_neg c70] at H
                have c70b0 : (t106 == (wrap64 ((wrap64 (t102 + t104)) + 1))) = false := beq_eq_false_iff_ne.mpr c70
                have c70b1 : (t106 != (wrap64 ((wrap64 (t102 + t104)) + 1))) = true := bne_iff_ne.mpr c70
                obtain rfl := Option.some.inj H
                go_wp2_with (first | ((with_reducible refine gate_callee (f := 30) rfl ?_); refine goesL_ (some 42) rfl rfl Tryd.func30 (by kernel_rfl) rfl #[.int .i64 a0] rfl (by (try simp only [List.map_toArray, List.map_cons, List.map_nil]); first | done | rfl | (simp only [List.length_drop, List.length_take]; rfl)) ?_; (with_reducible refine (feature_Log.calls kj3 a0 t102 t103 _ A13.out).mono ?_); rintro e w78 ⟨rfl, hb⟩; refine ⟨_, rfl, ?_⟩; have n0_ := Aside0.mk (below_step (by repeat (first | (with_reducible first | exact HB.out | apply below_alloc | apply pw_below_drewN | apply below_drew1) | exact HB.out)) hb); clear HB; have HB := n0_; clear n0_; (try clear hb); (try clear hb2); (try clear hk); (try clear hi)) | ((with_reducible refine gate_callee (f := 30) rfl ?_); refine goesL_ (some 47) rfl rfl Tryd.func30 (by kernel_rfl) rfl #[.int .i64 a1] rfl (by (try simp only [List.map_toArray, List.map_cons, List.map_nil]); first | done | rfl | (simp only [List.length_drop, List.length_take]; rfl)) ?_; (with_reducible refine (feature_Log.calls kj3 a1 t104 t105 _ A14.out).mono ?_); rintro e w79 ⟨rfl, hb⟩; refine ⟨_, rfl, ?_⟩; have n0_ := Aside0.mk (below_step (by repeat (first | (with_reducible first | exact HB.out | apply below_alloc | apply pw_below_drewN | apply below_drew1) | exact HB.out)) hb); clear HB; have HB := n0_; clear n0_; (try clear hb); (try clear hb2); (try clear hk); (try clear hi)) | ((with_reducible refine gate_callee (f := 30) rfl ?_); refine goesL_ (some 54) rfl rfl Tryd.func30 (by kernel_rfl) rfl #[.int .i64 (wrap64 (a0 * a1))] rfl (by (try simp only [List.map_toArray, List.map_cons, List.map_nil]); first | done | rfl | (simp only [List.length_drop, List.length_take]; rfl)) ?_; (with_reducible refine (feature_Log.calls kj3 (wrap64 (a0 * a1)) t106 t107 _ A15.out).mono ?_); rintro e w80 ⟨rfl, hb⟩; refine ⟨_, rfl, ?_⟩; have n0_ := Aside0.mk (below_step (by repeat (first | (with_reducible first | exact HB.out | apply below_alloc | apply pw_below_drewN | apply below_drew1) | exact HB.out)) hb); clear HB; have HB := n0_; clear n0_; (try clear hb); (try clear hb2); (try clear hk); (try clear hi)) | ((with_reducible refine gate_callee (f := 30) rfl ?_); refine goesL_ (some 60) rfl rfl Tryd.func30 (by kernel_rfl) rfl #[.int .i64 (wrap64 (2 * a0))] rfl (by (try simp only [List.map_toArray, List.map_cons, List.map_nil]); first | done | rfl | (simp only [List.length_drop, List.length_take]; rfl)) ?_; (with_reducible refine (feature_Log.calls kj3 (wrap64 (2 * a0)) t108 t109 _ A16.out).mono ?_); rintro e w81 ⟨rfl, hb⟩; refine ⟨_, rfl, ?_⟩; have n0_ := Aside0.mk (below_step (by repeat (first | (with_reducible first | exact HB.out | apply below_alloc | apply pw_below_drewN | apply below_drew1) | exact HB.out)) hb); clear HB; have HB := n0_; clear n0_; (try clear hb); (try clear hb2); (try clear hk); (try clear hi)) | ((with_reducible refine gate_callee (f := 30) rfl ?_); refine goesL_ (some 66) rfl rfl Tryd.func30 (by kernel_rfl) rfl #[.int .i64 ji18] rfl (by (try simp only [List.map_toArray, List.map_cons, List.map_nil]); first | done | (simp only [hji18]; rfl) | rfl | (simp only [List.length_drop, List.length_take]; rfl)) ?_; (with_reducible refine (feature_Log.calls kj3 ji18 t110 t111 _ A19.out).mono ?_); rintro e w82 ⟨rfl, hb⟩; refine ⟨_, rfl, ?_⟩; have n0_ := Aside0.mk (below_step (by repeat (first | (with_reducible first | exact HB.out | apply below_alloc | apply pw_below_drewN | apply below_drew1) | exact HB.out)) hb); clear HB; have HB := n0_; clear n0_; (try clear hb); (try clear hb2); (try clear hk); (try clear hi)))
                go_ret
                exact ⟨by first | rfl | (simp [errW_none, errW_some] <;> rfl) | (simp only [← hji18]; first | rfl | (simp [errW_none, errW_some] <;> rfl)) | (simp [*, errW_none, errW_some] <;> rfl), by repeat (first | (with_reducible first | exact HB.out | apply below_alloc | apply pw_below_drewN | apply below_drew1) | exact HB.out)⟩
             ·rw [if_neg c61] at H
              have c61b0 : (t110 == (wrap64 (16 * a2))) = false := beq_eq_false_iff_ne.mpr c61
              have c61b1 : (t110 != (wrap64 (16 * a2))) = true := bne_iff_ne.mpr c61
              obtain rfl := Option.some.inj H
              go_wp2_with (first | ((with_reducible refine gate_callee (f := 30) rfl ?_); refine goesL_ (some 42) rfl rfl Tryd.func30 (by kernel_rfl) rfl #[.int .i64 a0] rfl (by (try simp only [List.map_toArray, List.map_cons, List.map_nil]); first | done | rfl | (simp only [List.length_drop, List.length_take]; rfl)) ?_; (with_reducible refine (feature_Log.calls kj3 a0 t102 t103 _ A13.out).mono ?_); rintro e w83 ⟨rfl, hb⟩; refine ⟨_, rfl, ?_⟩; have n0_ := Aside0.mk (below_step (by repeat (first | (with_reducible first | exact HB.out | apply below_alloc | apply pw_below_drewN | apply below_drew1) | exact HB.out)) hb); clear HB; have HB := n0_; clear n0_; (try clear hb); (try clear hb2); (try clear hk); (try clear hi)) | ((with_reducible refine gate_callee (f := 30) rfl ?_); refine goesL_ (some 47) rfl rfl Tryd.func30 (by kernel_rfl) rfl #[.int .i64 a1] rfl (by (try simp only [List.map_toArray, List.map_cons, List.map_nil]); first | done | rfl | (simp only [List.length_drop, List.length_take]; rfl)) ?_; (with_reducible refine (feature_Log.calls kj3 a1 t104 t105 _ A14.out).mono ?_); rintro e w84 ⟨rfl, hb⟩; refine ⟨_, rfl, ?_⟩; have n0_ := Aside0.mk (below_step (by repeat (first | (with_reducible first | exact HB.out | apply below_alloc | apply pw_below_drewN | apply below_drew1) | exact HB.out)) hb); clear HB; have HB := n0_; clear n0_; (try clear hb); (try clear hb2); (try clear hk); (try clear hi)) | ((with_reducible refine gate_callee (f := 30) rfl ?_); refine goesL_ (some 54) rfl rfl Tryd.func30 (by kernel_rfl) rfl #[.int .i64 (wrap64 (a0 * a1))] rfl (by (try simp only [List.map_toArray, List.map_cons, List.map_nil]); first | done | rfl | (simp only [List.length_drop, List.length_take]; rfl)) ?_; (with_reducible refine (feature_Log.calls kj3 (wrap64 (a0 * a1)) t106 t107 _ A15.out).mono ?_); rintro e w85 ⟨rfl, hb⟩; refine ⟨_, rfl, ?_⟩; have n0_ := Aside0.mk (below_step (by repeat (first | (with_reducible first | exact HB.out | apply below_alloc | apply pw_below_drewN | apply below_drew1) | exact HB.out)) hb); clear HB; have HB := n0_; clear n0_; (try clear hb); (try clear hb2); (try clear hk); (try clear hi)) | ((with_reducible refine gate_callee (f := 30) rfl ?_); refine goesL_ (some 60) rfl rfl Tryd.func30 (by kernel_rfl) rfl #[.int .i64 (wrap64 (2 * a0))] rfl (by (try simp only [List.map_toArray, List.map_cons, List.map_nil]); first | done | rfl | (simp only [List.length_drop, List.length_take]; rfl)) ?_; (with_reducible refine (feature_Log.calls kj3 (wrap64 (2 * a0)) t108 t109 _ A16.out).mono ?_); rintro e w86 ⟨rfl, hb⟩; refine ⟨_, rfl, ?_⟩; have n0_ := Aside0.mk (below_step (by repeat (first | (with_reducible first | exact HB.out | apply below_alloc | apply pw_below_drewN | apply below_drew1) | exact HB.out)) hb); clear HB; have HB := n0_; clear n0_; (try clear hb); (try clear hb2); (try clear hk); (try clear hi)) | ((with_reducible refine gate_callee (f := 30) rfl ?_); refine goesL_ (some 66) rfl rfl Tryd.func30 (by kernel_rfl) rfl #[.int .i64 ji18] rfl (by (try simp only [List.map_toArray, List.map_cons, List.map_nil]); first | done | (simp only [hji18]; rfl) | rfl | (simp only [List.length_drop, List.length_take]; rfl)) ?_; (with_reducible refine (feature_Log.calls kj3 ji18 t110 t111 _ A19.out).mono ?_); rintro e w87 ⟨rfl, hb⟩; refine ⟨_, rfl, ?_⟩; have n0_ := Aside0.mk (below_step (by repeat (first | (with_reducible first | exact HB.out | apply below_alloc | apply pw_below_drewN | apply below_drew1) | exact HB.out)) hb); clear HB; have HB := n0_; clear n0_; (try clear hb); (try clear hb2); (try clear hk); (try clear hi)))
              go_ret
              exact ⟨by first | rfl | (simp [errW_none, errW_some] <;> rfl) | (simp only [← hji18]; first | rfl | (simp [errW_none, errW_some] <;> rfl)) | (simp [*, errW_none, errW_some] <;> rfl), by repeat (first | (with_reducible first | exact HB.out | apply below_alloc | apply pw_below_drewN | apply below_drew1) | exact HB.out)⟩
            ·rw [if_neg c60] at H
             have c60b0 : (t108 == (wrap64 (t102 + 16))) = false := beq_eq_false_iff_ne.mpr c60
             have c60b1 : (t108 != (wrap64 (t102 + 16))) = true := bne_iff_ne.mpr c60
             obtain rfl := Option.some.inj H
             go_wp2_with (first | ((with_reducible refine gate_callee (f := 30) rfl ?_); refine goesL_ (some 42) rfl rfl Tryd.func30 (by kernel_rfl) rfl #[.int .i64 a0] rfl (by (try simp only [List.map_toArray, List.map_cons, List.map_nil]); first | done | rfl | (simp only [List.length_drop, List.length_take]; rfl)) ?_; (with_reducible refine (feature_Log.calls kj3 a0 t102 t103 _ A13.out).mono ?_); rintro e w88 ⟨rfl, hb⟩; refine ⟨_, rfl, ?_⟩; have n0_ := Aside0.mk (below_step (by repeat (first | (with_reducible first | exact HB.out | apply below_alloc | apply pw_below_drewN | apply below_drew1) | exact HB.out)) hb); clear HB; have HB := n0_; clear n0_; (try clear hb); (try clear hb2); (try clear hk); (try clear hi)) | ((with_reducible refine gate_callee (f := 30) rfl ?_); refine goesL_ (some 47) rfl rfl Tryd.func30 (by kernel_rfl) rfl #[.int .i64 a1] rfl (by (try simp only [List.map_toArray, List.map_cons, List.map_nil]); first | done | rfl | (simp only [List.length_drop, List.length_take]; rfl)) ?_; (with_reducible refine (feature_Log.calls kj3 a1 t104 t105 _ A14.out).mono ?_); rintro e w89 ⟨rfl, hb⟩; refine ⟨_, rfl, ?_⟩; have n0_ := Aside0.mk (below_step (by repeat (first | (with_reducible first | exact HB.out | apply below_alloc | apply pw_below_drewN | apply below_drew1) | exact HB.out)) hb); clear HB; have HB := n0_; clear n0_; (try clear hb); (try clear hb2); (try clear hk); (try clear hi)) | ((with_reducible refine gate_callee (f := 30) rfl ?_); refine goesL_ (some 54) rfl rfl Tryd.func30 (by kernel_rfl) rfl #[.int .i64 (wrap64 (a0 * a1))] rfl (by (try simp only [List.map_toArray, List.map_cons, List.map_nil]); first | done | rfl | (simp only [List.length_drop, List.length_take]; rfl)) ?_; (with_reducible refine (feature_Log.calls kj3 (wrap64 (a0 * a1)) t106 t107 _ A15.out).mono ?_); rintro e w90 ⟨rfl, hb⟩; refine ⟨_, rfl, ?_⟩; have n0_ := Aside0.mk (below_step (by repeat (first | (with_reducible first | exact HB.out | apply below_alloc | apply pw_below_drewN | apply below_drew1) | exact HB.out)) hb); clear HB; have HB := n0_; clear n0_; (try clear hb); (try clear hb2); (try clear hk); (try clear hi)) | ((with_reducible refine gate_callee (f := 30) rfl ?_); refine goesL_ (some 60) rfl rfl Tryd.func30 (by kernel_rfl) rfl #[.int .i64 (wrap64 (2 * a0))] rfl (by (try simp only [List.map_toArray, List.map_cons, List.map_nil]); first | done | rfl | (simp only [List.length_drop, List.length_take]; rfl)) ?_; (with_reducible refine (feature_Log.calls kj3 (wrap64 (2 * a0)) t108 t109 _ A16.out).mono ?_); rintro e w91 ⟨rfl, hb⟩; refine ⟨_, rfl, ?_⟩; have n0_ := Aside0.mk (below_step (by repeat (first | (with_reducible first | exact HB.out | apply below_alloc | apply pw_below_drewN | apply below_drew1) | exact HB.out)) hb); clear HB; have HB := n0_; clear n0_; (try clear hb); (try clear hb2); (try clear hk); (try clear hi)) | ((with_reducible refine gate_callee (f := 30) rfl ?_); refine goesL_ (some 66) rfl rfl Tryd.func30 (by kernel_rfl) rfl #[.int .i64 ji18] rfl (by (try simp only [List.map_toArray, List.map_cons, List.map_nil]); first | done | (simp only [hji18]; rfl) | rfl | (simp only [List.length_drop, List.length_take]; rfl)) ?_; (with_reducible refine (feature_Log.calls kj3 ji18 t110 t111 _ A19.out).mono ?_); rintro e w92 ⟨rfl, hb⟩; refine ⟨_, rfl, ?_⟩; have n0_ := Aside0.mk (below_step (by repeat (first | (with_reducible first | exact HB.out | apply below_alloc | apply pw_below_drewN | apply below_drew1) | exact HB.out)) hb); clear HB; have HB := n0_; clear n0_; (try clear hb); (try clear hb2); (try clear hk); (try clear hi)))
             go_ret
             exact ⟨by first | rfl | (simp [errW_none, errW_some] <;> rfl) | (simp only [← hji18]; first | rfl | (simp [errW_none, errW_some] <;> rfl)) | (simp [*, errW_none, errW_some] <;> rfl), by repeat (first | (with_reducible first | exact HB.out | apply below_alloc | apply pw_below_drewN | apply below_drew1) | exact HB.out)⟩
           ·rw [if_neg c59] at H
            have c59b0 : decide (t102 ≤ t104) = false := decide_eq_false c59
            clear c59
            obtain rfl := Option.some.inj H
            go_wp2_with (first | ((with_reducible refine gate_callee (f := 30) rfl ?_); refine goesL_ (some 42) rfl rfl Tryd.func30 (by kernel_rfl) rfl #[.int .i64 a0] rfl (by (try simp only [List.map_toArray, List.map_cons, List.map_nil]); first | done | rfl | (simp only [List.length_drop, List.length_take]; rfl)) ?_; (with_reducible refine (feature_Log.calls kj3 a0 t102 t103 _ A13.out).mono ?_); rintro e w93 ⟨rfl, hb⟩; refine ⟨_, rfl, ?_⟩; have n0_ := Aside0.mk (below_step (by repeat (first | (with_reducible first | exact HB.out | apply below_alloc | apply pw_below_drewN | apply below_drew1) | exact HB.out)) hb); clear HB; have HB := n0_; clear n0_; (try clear hb); (try clear hb2); (try clear hk); (try clear hi)) | ((with_reducible refine gate_callee (f := 30) rfl ?_); refine goesL_ (some 47) rfl rfl Tryd.func30 (by kernel_rfl) rfl #[.int .i64 a1] rfl (by (try simp only [List.map_toArray, List.map_cons, List.map_nil]); first | done | rfl | (simp only [List.length_drop, List.length_take]; rfl)) ?_; (with_reducible refine (feature_Log.calls kj3 a1 t104 t105 _ A14.out).mono ?_); rintro e w94 ⟨rfl, hb⟩; refine ⟨_, rfl, ?_⟩; have n0_ := Aside0.mk (below_step (by repeat (first | (with_reducible first | exact HB.out | apply below_alloc | apply pw_below_drewN | apply below_drew1) | exact HB.out)) hb); clear HB; have HB := n0_; clear n0_; (try clear hb); (try clear hb2); (try clear hk); (try clear hi)) | ((with_reducible refine gate_callee (f := 30) rfl ?_); refine goesL_ (some 54) rfl rfl Tryd.func30 (by kernel_rfl) rfl #[.int .i64 (wrap64 (a0 * a1))] rfl (by (try simp only [List.map_toArray, List.map_cons, List.map_nil]); first | done | rfl | (simp only [List.length_drop, List.length_take]; rfl)) ?_; (with_reducible refine (feature_Log.calls kj3 (wrap64 (a0 * a1)) t106 t107 _ A15.out).mono ?_); rintro e w95 ⟨rfl, hb⟩; refine ⟨_, rfl, ?_⟩; have n0_ := Aside0.mk (below_step (by repeat (first | (with_reducible first | exact HB.out | apply below_alloc | apply pw_below_drewN | apply below_drew1) | exact HB.out)) hb); clear HB; have HB := n0_; clear n0_; (try clear hb); (try clear hb2); (try clear hk); (try clear hi)) | ((with_reducible refine gate_callee (f := 30) rfl ?_); refine goesL_ (some 60) rfl rfl Tryd.func30 (by kernel_rfl) rfl #[.int .i64 (wrap64 (2 * a0))] rfl (by (try simp only [List.map_toArray, List.map_cons, List.map_nil]); first | done | rfl | (simp only [List.length_drop, List.length_take]; rfl)) ?_; (with_reducible refine (feature_Log.calls kj3 (wrap64 (2 * a0)) t108 t109 _ A16.out).mono ?_); rintro e w96 ⟨rfl, hb⟩; refine ⟨_, rfl, ?_⟩; have n0_ := Aside0.mk (below_step (by repeat (first | (with_reducible first | exact HB.out | apply below_alloc | apply pw_below_drewN | apply below_drew1) | exact HB.out)) hb); clear HB; have HB := n0_; clear n0_; (try clear hb); (try clear hb2); (try clear hk); (try clear hi)) | ((with_reducible refine gate_callee (f := 30) rfl ?_); refine goesL_ (some 66) rfl rfl Tryd.func30 (by kernel_rfl) rfl #[.int .i64 ji18] rfl (by (try simp only [List.map_toArray, List.map_cons, List.map_nil]); first | done | (simp only [hji18]; rfl) | rfl | (simp only [List.length_drop, List.length_take]; rfl)) ?_; (with_reducible refine (feature_Log.calls kj3 ji18 t110 t111 _ A19.out).mono ?_); rintro e w97 ⟨rfl, hb⟩; refine ⟨_, rfl, ?_⟩; have n0_ := Aside0.mk (below_step (by repeat (first | (with_reducible first | exact HB.out | apply below_alloc | apply pw_below_drewN | apply below_drew1) | exact HB.out)) hb); clear HB; have HB := n0_; clear n0_; (try clear hb); (try clear hb2); (try clear hk); (try clear hi)))
            go_ret
            exact ⟨by first | rfl | (simp [errW_none, errW_some] <;> rfl) | (simp only [← hji18]; first | rfl | (simp [errW_none, errW_some] <;> rfl)) | (simp [*, errW_none, errW_some] <;> rfl), by repeat (first | (with_reducible first | exact HB.out | apply below_alloc | apply pw_below_drewN | apply below_drew1) | exact HB.out)⟩
         ·rw [if_neg c24] at H
          have c24b0 : (t111 == 0) = false := beq_eq_false_iff_ne.mpr c24
          have c24b1 : (t111 != 0) = true := bne_iff_ne.mpr c24
          obtain rfl := Option.some.inj H
          go_wp2_with (first | ((with_reducible refine gate_callee (f := 30) rfl ?_); refine goesL_ (some 42) rfl rfl Tryd.func30 (by kernel_rfl) rfl #[.int .i64 a0] rfl (by (try simp only [List.map_toArray, List.map_cons, List.map_nil]); first | done | rfl | (simp only [List.length_drop, List.length_take]; rfl)) ?_; (with_reducible refine (feature_Log.calls kj3 a0 t102 t103 _ A13.out).mono ?_); rintro e w98 ⟨rfl, hb⟩; refine ⟨_, rfl, ?_⟩; have n0_ := Aside0.mk (below_step (by repeat (first | (with_reducible first | exact HB.out | apply below_alloc | apply pw_below_drewN | apply below_drew1) | exact HB.out)) hb); clear HB; have HB := n0_; clear n0_; (try clear hb); (try clear hb2); (try clear hk); (try clear hi)) | ((with_reducible refine gate_callee (f := 30) rfl ?_); refine goesL_ (some 47) rfl rfl Tryd.func30 (by kernel_rfl) rfl #[.int .i64 a1] rfl (by (try simp only [List.map_toArray, List.map_cons, List.map_nil]); first | done | rfl | (simp only [List.length_drop, List.length_take]; rfl)) ?_; (with_reducible refine (feature_Log.calls kj3 a1 t104 t105 _ A14.out).mono ?_); rintro e w99 ⟨rfl, hb⟩; refine ⟨_, rfl, ?_⟩; have n0_ := Aside0.mk (below_step (by repeat (first | (with_reducible first | exact HB.out | apply below_alloc | apply pw_below_drewN | apply below_drew1) | exact HB.out)) hb); clear HB; have HB := n0_; clear n0_; (try clear hb); (try clear hb2); (try clear hk); (try clear hi)) | ((with_reducible refine gate_callee (f := 30) rfl ?_); refine goesL_ (some 54) rfl rfl Tryd.func30 (by kernel_rfl) rfl #[.int .i64 (wrap64 (a0 * a1))] rfl (by (try simp only [List.map_toArray, List.map_cons, List.map_nil]); first | done | rfl | (simp only [List.length_drop, List.length_take]; rfl)) ?_; (with_reducible refine (feature_Log.calls kj3 (wrap64 (a0 * a1)) t106 t107 _ A15.out).mono ?_); rintro e w100 ⟨rfl, hb⟩; refine ⟨_, rfl, ?_⟩; have n0_ := Aside0.mk (below_step (by repeat (first | (with_reducible first | exact HB.out | apply below_alloc | apply pw_below_drewN | apply below_drew1) | exact HB.out)) hb); clear HB; have HB := n0_; clear n0_; (try clear hb); (try clear hb2); (try clear hk); (try clear hi)) | ((with_reducible refine gate_callee (f := 30) rfl ?_); refine goesL_ (some 60) rfl rfl Tryd.func30 (by kernel_rfl) rfl #[.int .i64 (wrap64 (2 * a0))] rfl (by (try simp only [List.map_toArray, List.map_cons, List.map_nil]); first | done | rfl | (simp only [List.length_drop, List.length_take]; rfl)) ?_; (with_reducible refine (feature_Log.calls kj3 (wrap64 (2 * a0)) t108 t109 _ A16.out).mono ?_); rintro e w101 ⟨rfl, hb⟩; refine ⟨_, rfl, ?_⟩; have n0_ := Aside0.mk (below_step (by repeat (first | (with_reducible first | exact HB.out | apply below_alloc | apply pw_below_drewN | apply below_drew1) | exact HB.out)) hb); clear HB; have HB := n0_; clear n0_; (try clear hb); (try clear hb2); (try clear hk); (try clear hi)) | ((with_reducible refine gate_callee (f := 30) rfl ?_); refine goesL_ (some 66) rfl rfl Tryd.func30 (by kernel_rfl) rfl #[.int .i64 ji18] rfl (by (try simp only [List.map_toArray, List.map_cons, List.map_nil]); first | done | (simp only [hji18]; rfl) | rfl | (simp only [List.length_drop, List.length_take]; rfl)) ?_; (with_reducible refine (feature_Log.calls kj3 ji18 t110 t111 _ A19.out).mono ?_); rintro e w102 ⟨rfl, hb⟩; refine ⟨_, rfl, ?_⟩; have n0_ := Aside0.mk (below_step (by repeat (first | (with_reducible first | exact HB.out | apply below_alloc | apply pw_below_drewN | apply below_drew1) | exact HB.out)) hb); clear HB; have HB := n0_; clear n0_; (try clear hb); (try clear hb2); (try clear hk); (try clear hi)))
          go_ret
          exact ⟨by first | rfl | (simp [errW_none, errW_some] <;> rfl) | (simp only [← hji18]; first | rfl | (simp [errW_none, errW_some] <;> rfl)) | (simp [*, errW_none, errW_some] <;> rfl), by repeat (first | (with_reducible first | exact HB.out | apply below_alloc | apply pw_below_drewN | apply below_drew1) | exact HB.out)⟩
        ·rw [if_neg c23] at H
         have c23b0 : (t109 == 0) = false := beq_eq_false_iff_ne.mpr c23
         have c23b1 : (t109 != 0) = true := bne_iff_ne.mpr c23
         obtain rfl := Option.some.inj H
         go_wp2_with (first | ((with_reducible refine gate_callee (f := 30) rfl ?_); refine goesL_ (some 42) rfl rfl Tryd.func30 (by kernel_rfl) rfl #[.int .i64 a0] rfl (by (try simp only [List.map_toArray, List.map_cons, List.map_nil]); first | done | rfl | (simp only [List.length_drop, List.length_take]; rfl)) ?_; (with_reducible refine (feature_Log.calls kj3 a0 t102 t103 _ A13.out).mono ?_); rintro e w103 ⟨rfl, hb⟩; refine ⟨_, rfl, ?_⟩; have n0_ := Aside0.mk (below_step (by repeat (first | (with_reducible first | exact HB.out | apply below_alloc | apply pw_below_drewN | apply below_drew1) | exact HB.out)) hb); clear HB; have HB := n0_; clear n0_; (try clear hb); (try clear hb2); (try clear hk); (try clear hi)) | ((with_reducible refine gate_callee (f := 30) rfl ?_); refine goesL_ (some 47) rfl rfl Tryd.func30 (by kernel_rfl) rfl #[.int .i64 a1] rfl (by (try simp only [List.map_toArray, List.map_cons, List.map_nil]); first | done | rfl | (simp only [List.length_drop, List.length_take]; rfl)) ?_; (with_reducible refine (feature_Log.calls kj3 a1 t104 t105 _ A14.out).mono ?_); rintro e w104 ⟨rfl, hb⟩; refine ⟨_, rfl, ?_⟩; have n0_ := Aside0.mk (below_step (by repeat (first | (with_reducible first | exact HB.out | apply below_alloc | apply pw_below_drewN | apply below_drew1) | exact HB.out)) hb); clear HB; have HB := n0_; clear n0_; (try clear hb); (try clear hb2); (try clear hk); (try clear hi)) | ((with_reducible refine gate_callee (f := 30) rfl ?_); refine goesL_ (some 54) rfl rfl Tryd.func30 (by kernel_rfl) rfl #[.int .i64 (wrap64 (a0 * a1))] rfl (by (try simp only [List.map_toArray, List.map_cons, List.map_nil]); first | done | rfl | (simp only [List.length_drop, List.length_take]; rfl)) ?_; (with_reducible refine (feature_Log.calls kj3 (wrap64 (a0 * a1)) t106 t107 _ A15.out).mono ?_); rintro e w105 ⟨rfl, hb⟩; refine ⟨_, rfl, ?_⟩; have n0_ := Aside0.mk (below_step (by repeat (first | (with_reducible first | exact HB.out | apply below_alloc | apply pw_below_drewN | apply below_drew1) | exact HB.out)) hb); clear HB; have HB := n0_; clear n0_; (try clear hb); (try clear hb2); (try clear hk); (try clear hi)) | ((with_reducible refine gate_callee (f := 30) rfl ?_); refine goesL_ (some 60) rfl rfl Tryd.func30 (by kernel_rfl) rfl #[.int .i64 (wrap64 (2 * a0))] rfl (by (try simp only [List.map_toArray, List.map_cons, List.map_nil]); first | done | rfl | (simp only [List.length_drop, List.length_take]; rfl)) ?_; (with_reducible refine (feature_Log.calls kj3 (wrap64 (2 * a0)) t108 t109 _ A16.out).mono ?_); rintro e w106 ⟨rfl, hb⟩; refine ⟨_, rfl, ?_⟩; have n0_ := Aside0.mk (below_step (by repeat (first | (with_reducible first | exact HB.out | apply below_alloc | apply pw_below_drewN | apply below_drew1) | exact HB.out)) hb); clear HB; have HB := n0_; clear n0_; (try clear hb); (try clear hb2); (try clear hk); (try clear hi)) | ((with_reducible refine gate_callee (f := 30) rfl ?_); refine goesL_ (some 66) rfl rfl Tryd.func30 (by kernel_rfl) rfl #[.int .i64 ji18] rfl (by (try simp only [List.map_toArray, List.map_cons, List.map_nil]); first | done | (simp only [hji18]; rfl) | rfl | (simp only [List.length_drop, List.length_take]; rfl)) ?_; (with_reducible refine (feature_Log.calls kj3 ji18 t110 t111 _ A19.out).mono ?_); rintro e w107 ⟨rfl, hb⟩; refine ⟨_, rfl, ?_⟩; have n0_ := Aside0.mk (below_step (by repeat (first | (with_reducible first | exact HB.out | apply below_alloc | apply pw_below_drewN | apply below_drew1) | exact HB.out)) hb); clear HB; have HB := n0_; clear n0_; (try clear hb); (try clear hb2); (try clear hk); (try clear hi)))
         go_ret
         exact ⟨by first | rfl | (simp [errW_none, errW_some] <;> rfl) | (simp only [← hji18]; first | rfl | (simp [errW_none, errW_some] <;> rfl)) | (simp [*, errW_none, errW_some] <;> rfl), by repeat (first | (with_reducible first | exact HB.out | apply below_alloc | apply pw_below_drewN | apply below_drew1) | exact HB.out)⟩
       ·rw [if_neg c22] at H
        have c22b0 : (t107 == 0) = false := beq_eq_false_iff_ne.mpr c22
        have c22b1 : (t107 != 0) = true := bne_iff_ne.mpr c22
        obtain rfl := Option.some.inj H
        go_wp2_with (first | ((with_reducible refine gate_callee (f := 30) rfl ?_); refine goesL_ (some 42) rfl rfl Tryd.func30 (by kernel_rfl) rfl #[.int .i64 a0] rfl (by (try simp only [List.map_toArray, List.map_cons, List.map_nil]); first | done | rfl | (simp only [List.length_drop, List.length_take]; rfl)) ?_; (with_reducible refine (feature_Log.calls kj3 a0 t102 t103 _ A13.out).mono ?_); rintro e w108 ⟨rfl, hb⟩; refine ⟨_, rfl, ?_⟩; have n0_ := Aside0.mk (below_step (by repeat (first | (with_reducible first | exact HB.out | apply below_alloc | apply pw_below_drewN | apply below_drew1) | exact HB.out)) hb); clear HB; have HB := n0_; clear n0_; (try clear hb); (try clear hb2); (try clear hk); (try clear hi)) | ((with_reducible refine gate_callee (f := 30) rfl ?_); refine goesL_ (some 47) rfl rfl Tryd.func30 (by kernel_rfl) rfl #[.int .i64 a1] rfl (by (try simp only [List.map_toArray, List.map_cons, List.map_nil]); first | done | rfl | (simp only [List.length_drop, List.length_take]; rfl)) ?_; (with_reducible refine (feature_Log.calls kj3 a1 t104 t105 _ A14.out).mono ?_); rintro e w109 ⟨rfl, hb⟩; refine ⟨_, rfl, ?_⟩; have n0_ := Aside0.mk (below_step (by repeat (first | (with_reducible first | exact HB.out | apply below_alloc | apply pw_below_drewN | apply below_drew1) | exact HB.out)) hb); clear HB; have HB := n0_; clear n0_; (try clear hb); (try clear hb2); (try clear hk); (try clear hi)) | ((with_reducible refine gate_callee (f := 30) rfl ?_); refine goesL_ (some 54) rfl rfl Tryd.func30 (by kernel_rfl) rfl #[.int .i64 (wrap64 (a0 * a1))] rfl (by (try simp only [List.map_toArray, List.map_cons, List.map_nil]); first | done | rfl | (simp only [List.length_drop, List.length_take]; rfl)) ?_; (with_reducible refine (feature_Log.calls kj3 (wrap64 (a0 * a1)) t106 t107 _ A15.out).mono ?_); rintro e w110 ⟨rfl, hb⟩; refine ⟨_, rfl, ?_⟩; have n0_ := Aside0.mk (below_step (by repeat (first | (with_reducible first | exact HB.out | apply below_alloc | apply pw_below_drewN | apply below_drew1) | exact HB.out)) hb); clear HB; have HB := n0_; clear n0_; (try clear hb); (try clear hb2); (try clear hk); (try clear hi)) | ((with_reducible refine gate_callee (f := 30) rfl ?_); refine goesL_ (some 60) rfl rfl Tryd.func30 (by kernel_rfl) rfl #[.int .i64 (wrap64 (2 * a0))] rfl (by (try simp only [List.map_toArray, List.map_cons, List.map_nil]); first | done | rfl | (simp only [List.length_drop, List.length_take]; rfl)) ?_; (with_reducible refine (feature_Log.calls kj3 (wrap64 (2 * a0)) t108 t109 _ A16.out).mono ?_); rintro e w111 ⟨rfl, hb⟩; refine ⟨_, rfl, ?_⟩; have n0_ := Aside0.mk (below_step (by repeat (first | (with_reducible first | exact HB.out | apply below_alloc | apply pw_below_drewN | apply below_drew1) | exact HB.out)) hb); clear HB; have HB := n0_; clear n0_; (try clear hb); (try clear hb2); (try clear hk); (try clear hi)) | ((with_reducible refine gate_callee (f := 30) rfl ?_); refine goesL_ (some 66) rfl rfl Tryd.func30 (by kernel_rfl) rfl #[.int .i64 ji18] rfl (by (try simp only [List.map_toArray, List.map_cons, List.map_nil]); first | done | (simp only [hji18]; rfl) | rfl | (simp only [List.length_drop, List.length_take]; rfl)) ?_; (with_reducible refine (feature_Log.calls kj3 ji18 t110 t111 _ A19.out).mono ?_); rintro e w112 ⟨rfl, hb⟩; refine ⟨_, rfl, ?_⟩; have n0_ := Aside0.mk (below_step (by repeat (first | (with_reducible first | exact HB.out | apply below_alloc | apply pw_below_drewN | apply below_drew1) | exact HB.out)) hb); clear HB; have HB := n0_; clear n0_; (try clear hb); (try clear hb2); (try clear hk); (try clear hi)))
        go_ret
        exact ⟨by first | rfl | (simp [errW_none, errW_some] <;> rfl) | (simp only [← hji18]; first | rfl | (simp [errW_none, errW_some] <;> rfl)) | (simp [*, errW_none, errW_some] <;> rfl), by repeat (first | (with_reducible first | exact HB.out | apply below_alloc | apply pw_below_drewN | apply below_drew1) | exact HB.out)⟩
      ·rw [if_neg c21] at H
       have c21b0 : (t105 == 0) = false := beq_eq_false_iff_ne.mpr c21
       have c21b1 : (t105 != 0) = true := bne_iff_ne.mpr c21
       obtain rfl := Option.some.inj H
       go_wp2_with (first | ((with_reducible refine gate_callee (f := 30) rfl ?_); refine goesL_ (some 42) rfl rfl Tryd.func30 (by kernel_rfl) rfl #[.int .i64 a0] rfl (by (try simp only [List.map_toArray, List.map_cons, List.map_nil]); first | done | rfl | (simp only [List.length_drop, List.length_take]; rfl)) ?_; (with_reducible refine (feature_Log.calls kj3 a0 t102 t103 _ A13.out).mono ?_); rintro e w113 ⟨rfl, hb⟩; refine ⟨_, rfl, ?_⟩; have n0_ := Aside0.mk (below_step (by repeat (first | (with_reducible first | exact HB.out | apply below_alloc | apply pw_below_drewN | apply below_drew1) | exact HB.out)) hb); clear HB; have HB := n0_; clear n0_; (try clear hb); (try clear hb2); (try clear hk); (try clear hi)) | ((with_reducible refine gate_callee (f := 30) rfl ?_); refine goesL_ (some 47) rfl rfl Tryd.func30 (by kernel_rfl) rfl #[.int .i64 a1] rfl (by (try simp only [List.map_toArray, List.map_cons, List.map_nil]); first | done | rfl | (simp only [List.length_drop, List.length_take]; rfl)) ?_; (with_reducible refine (feature_Log.calls kj3 a1 t104 t105 _ A14.out).mono ?_); rintro e w114 ⟨rfl, hb⟩; refine ⟨_, rfl, ?_⟩; have n0_ := Aside0.mk (below_step (by repeat (first | (with_reducible first | exact HB.out | apply below_alloc | apply pw_below_drewN | apply below_drew1) | exact HB.out)) hb); clear HB; have HB := n0_; clear n0_; (try clear hb); (try clear hb2); (try clear hk); (try clear hi)) | ((with_reducible refine gate_callee (f := 30) rfl ?_); refine goesL_ (some 54) rfl rfl Tryd.func30 (by kernel_rfl) rfl #[.int .i64 (wrap64 (a0 * a1))] rfl (by (try simp only [List.map_toArray, List.map_cons, List.map_nil]); first | done | rfl | (simp only [List.length_drop, List.length_take]; rfl)) ?_; (with_reducible refine (feature_Log.calls kj3 (wrap64 (a0 * a1)) t106 t107 _ A15.out).mono ?_); rintro e w115 ⟨rfl, hb⟩; refine ⟨_, rfl, ?_⟩; have n0_ := Aside0.mk (below_step (by repeat (first | (with_reducible first | exact HB.out | apply below_alloc | apply pw_below_drewN | apply below_drew1) | exact HB.out)) hb); clear HB; have HB := n0_; clear n0_; (try clear hb); (try clear hb2); (try clear hk); (try clear hi)) | ((with_reducible refine gate_callee (f := 30) rfl ?_); refine goesL_ (some 60) rfl rfl Tryd.func30 (by kernel_rfl) rfl #[.int .i64 (wrap64 (2 * a0))] rfl (by (try simp only [List.map_toArray, List.map_cons, List.map_nil]); first | done | rfl | (simp only [List.length_drop, List.length_take]; rfl)) ?_; (with_reducible refine (feature_Log.calls kj3 (wrap64 (2 * a0)) t108 t109 _ A16.out).mono ?_); rintro e w116 ⟨rfl, hb⟩; refine ⟨_, rfl, ?_⟩; have n0_ := Aside0.mk (below_step (by repeat (first | (with_reducible first | exact HB.out | apply below_alloc | apply pw_below_drewN | apply below_drew1) | exact HB.out)) hb); clear HB; have HB := n0_; clear n0_; (try clear hb); (try clear hb2); (try clear hk); (try clear hi)) | ((with_reducible refine gate_callee (f := 30) rfl ?_); refine goesL_ (some 66) rfl rfl Tryd.func30 (by kernel_rfl) rfl #[.int .i64 ji18] rfl (by (try simp only [List.map_toArray, List.map_cons, List.map_nil]); first | done | (simp only [hji18]; rfl) | rfl | (simp only [List.length_drop, List.length_take]; rfl)) ?_; (with_reducible refine (feature_Log.calls kj3 ji18 t110 t111 _ A19.out).mono ?_); rintro e w117 ⟨rfl, hb⟩; refine ⟨_, rfl, ?_⟩; have n0_ := Aside0.mk (below_step (by repeat (first | (with_reducible first | exact HB.out | apply below_alloc | apply pw_below_drewN | apply below_drew1) | exact HB.out)) hb); clear HB; have HB := n0_; clear n0_; (try clear hb); (try clear hb2); (try clear hk); (try clear hi)))
       go_ret
       exact ⟨by first | rfl | (simp [errW_none, errW_some] <;> rfl) | (simp only [← hji18]; first | rfl | (simp [errW_none, errW_some] <;> rfl)) | (simp [*, errW_none, errW_some] <;> rfl), by repeat (first | (with_reducible first | exact HB.out | apply below_alloc | apply pw_below_drewN | apply below_drew1) | exact HB.out)⟩
     ·rw [if_neg c20] at H
      have c20b0 : (t103 == 0) = false := beq_eq_false_iff_ne.mpr c20
      have c20b1 : (t103 != 0) = true := bne_iff_ne.mpr c20
      obtain rfl := Option.some.inj H
      go_wp2_with (first | ((with_reducible refine gate_callee (f := 30) rfl ?_); refine goesL_ (some 42) rfl rfl Tryd.func30 (by kernel_rfl) rfl #[.int .i64 a0] rfl (by (try simp only [List.map_toArray, List.map_cons, List.map_nil]); first | done | rfl | (simp only [List.length_drop, List.length_take]; rfl)) ?_; (with_reducible refine (feature_Log.calls kj3 a0 t102 t103 _ A13.out).mono ?_); rintro e w118 ⟨rfl, hb⟩; refine ⟨_, rfl, ?_⟩; have n0_ := Aside0.mk (below_step (by repeat (first | (with_reducible first | exact HB.out | apply below_alloc | apply pw_below_drewN | apply below_drew1) | exact HB.out)) hb); clear HB; have HB := n0_; clear n0_; (try clear hb); (try clear hb2); (try clear hk); (try clear hi)) | ((with_reducible refine gate_callee (f := 30) rfl ?_); refine goesL_ (some 47) rfl rfl Tryd.func30 (by kernel_rfl) rfl #[.int .i64 a1] rfl (by (try simp only [List.map_toArray, List.map_cons, List.map_nil]); first | done | rfl | (simp only [List.length_drop, List.length_take]; rfl)) ?_; (with_reducible refine (feature_Log.calls kj3 a1 t104 t105 _ A14.out).mono ?_); rintro e w119 ⟨rfl, hb⟩; refine ⟨_, rfl, ?_⟩; have n0_ := Aside0.mk (below_step (by repeat (first | (with_reducible first | exact HB.out | apply below_alloc | apply pw_below_drewN | apply below_drew1) | exact HB.out)) hb); clear HB; have HB := n0_; clear n0_; (try clear hb); (try clear hb2); (try clear hk); (try clear hi)) | ((with_reducible refine gate_callee (f := 30) rfl ?_); refine goesL_ (some 54) rfl rfl Tryd.func30 (by kernel_rfl) rfl #[.int .i64 (wrap64 (a0 * a1))] rfl (by (try simp only [List.map_toArray, List.map_cons, List.map_nil]); first | done | rfl | (simp only [List.length_drop, List.length_take]; rfl)) ?_; (with_reducible refine (feature_Log.calls kj3 (wrap64 (a0 * a1)) t106 t107 _ A15.out).mono ?_); rintro e w120 ⟨rfl, hb⟩; refine ⟨_, rfl, ?_⟩; have n0_ := Aside0.mk (below_step (by repeat (first | (with_reducible first | exact HB.out | apply below_alloc | apply pw_below_drewN | apply below_drew1) | exact HB.out)) hb); clear HB; have HB := n0_; clear n0_; (try clear hb); (try clear hb2); (try clear hk); (try clear hi)) | ((with_reducible refine gate_callee (f := 30) rfl ?_); refine goesL_ (some 60) rfl rfl Tryd.func30 (by kernel_rfl) rfl #[.int .i64 (wrap64 (2 * a0))] rfl (by (try simp only [List.map_toArray, List.map_cons, List.map_nil]); first | done | rfl | (simp only [List.length_drop, List.length_take]; rfl)) ?_; (with_reducible refine (feature_Log.calls kj3 (wrap64 (2 * a0)) t108 t109 _ A16.out).mono ?_); rintro e w121 ⟨rfl, hb⟩; refine ⟨_, rfl, ?_⟩; have n0_ := Aside0.mk (below_step (by repeat (first | (with_reducible first | exact HB.out | apply below_alloc | apply pw_below_drewN | apply below_drew1) | exact HB.out)) hb); clear HB; have HB := n0_; clear n0_; (try clear hb); (try clear hb2); (try clear hk); (try clear hi)) | ((with_reducible refine gate_callee (f := 30) rfl ?_); refine goesL_ (some 66) rfl rfl Tryd.func30 (by kernel_rfl) rfl #[.int .i64 ji18] rfl (by (try simp only [List.map_toArray, List.map_cons, List.map_nil]); first | done | (simp only [hji18]; rfl) | rfl | (simp only [List.length_drop, List.length_take]; rfl)) ?_; (with_reducible refine (feature_Log.calls kj3 ji18 t110 t111 _ A19.out).mono ?_); rintro e w122 ⟨rfl, hb⟩; refine ⟨_, rfl, ?_⟩; have n0_ := Aside0.mk (below_step (by repeat (first | (with_reducible first | exact HB.out | apply below_alloc | apply pw_below_drewN | apply below_drew1) | exact HB.out)) hb); clear HB; have HB := n0_; clear n0_; (try clear hb); (try clear hb2); (try clear hk); (try clear hi)))
      go_ret
      exact ⟨by first | rfl | (simp [errW_none, errW_some] <;> rfl) | (simp only [← hji18]; first | rfl | (simp [errW_none, errW_some] <;> rfl)) | (simp [*, errW_none, errW_some] <;> rfl), by repeat (first | (with_reducible first | exact HB.out | apply below_alloc | apply pw_below_drewN | apply below_drew1) | exact HB.out)⟩
    ·rw [if_neg c17] at H
     exact absurd H (by simp)

/-- THE ONE PURE STATEMENT of earshotlaw03_FeatureGrows: yours. -/
def earshotlaw03_FeatureGrows.Pure : Prop := ∀ (a0 : Int) (a1 : Int) (a2 : Int), (Lit.int .i64 a0).wf = true → (Lit.int .i64 a1).wf = true → (Lit.int .i64 a2).wf = true → ∃ k, earshotlaw03_FeatureGrows.f k a0 a1 a2 = some true
theorem earshotlaw03_FeatureGrows.walk (P : earshotlaw03_FeatureGrows.Pure) (a0 : Int) (a1 : Int) (a2 : Int) (w : World) (ht : Kd.C (Kd.int .i64) w (some ⟨0, 0, none⟩) 65 tabL) (w0 : (Lit.int .i64 a0).wf = true) (w1 : (Lit.int .i64 a1).wf = true) (w2 : (Lit.int .i64 a2).wf = true) :
  Calls Tryd.prog 7 #[.int .i64 a0, .int .i64 a1, .int .i64 a2] w fun e w' => e = .returned (.bool true) ∧ Below w.heap.size w w' := by
 obtain ⟨k, h⟩ := P a0 a1 a2 w0 w1 w2
 refine (earshotlaw03_FeatureGrows.calls k a0 a1 a2 true w ht h).mono ?_
 rintro e w' ⟨rfl, hd⟩
 exact ⟨rfl, hd⟩

/-! ### earshotref03_Length: function 24 -/
def earshotref03_Length.f (a0 : Int) : Option (Bool) := if a0 = 1 then (some true) else (if a0 = 2 then (some true) else (if a0 = 4 then (some true) else (if a0 = 8 then (some true) else (if a0 = 16 then (some true) else (if a0 = 32 then (some true) else (some (a0 == 64)))))))
set_option maxHeartbeats 8000000 in
set_option maxRecDepth 100000 in
theorem earshotref03_Length.calls (a0 : Int) (r : Bool) (w : World) (h : earshotref03_Length.f a0 = some r) :
  Calls Tryd.prog 24 #[.int .i64 a0] w fun e w' => e = .returned (.bool r) ∧ Drawn0 w w' := by
 have H : (if a0 = 1 then (some true) else (if a0 = 2 then (some true) else (if a0 = 4 then (some true) else (if a0 = 8 then (some true) else (if a0 = 16 then (some true) else (if a0 = 32 then (some true) else (some (a0 == 64)))))))) = some r := h
 clear h
 by_cases c2 : a0 = 1
 ·rw [if_pos c2] at H
  have c2b0 : (a0 == 1) = true := beq_iff_eq.mpr c2
  have c2b1 : (a0 != 1) = false := bne_eq_false_iff_eq.mpr c2
  clear c2
  obtain rfl := Option.some.inj H
  go_enter Tryd.func24, Tryd.ntmps24
  go_wp2
  go_ret
  exact ⟨by first | rfl | (simp; done) | (simp [*]; done), by repeat (first | exact Drawn0.refl _ | apply Drawn0.step)⟩
 ·rw [if_neg c2] at H
  have c2b0 : (a0 == 1) = false := beq_eq_false_iff_ne.mpr c2
  have c2b1 : (a0 != 1) = true := bne_iff_ne.mpr c2
  by_cases c3 : a0 = 2
  ·rw [if_pos c3] at H
   have c3b0 : (a0 == 2) = true := beq_iff_eq.mpr c3
   have c3b1 : (a0 != 2) = false := bne_eq_false_iff_eq.mpr c3
   clear c3
   obtain rfl := Option.some.inj H
   go_enter Tryd.func24, Tryd.ntmps24
   go_wp2
   go_ret
   exact ⟨by first | rfl | (simp; done) | (simp [*]; done), by repeat (first | exact Drawn0.refl _ | apply Drawn0.step)⟩
  ·rw [if_neg c3] at H
   have c3b0 : (a0 == 2) = false := beq_eq_false_iff_ne.mpr c3
   have c3b1 : (a0 != 2) = true := bne_iff_ne.mpr c3
   by_cases c4 : a0 = 4
   ·rw [if_pos c4] at H
    have c4b0 : (a0 == 4) = true := beq_iff_eq.mpr c4
    have c4b1 : (a0 != 4) = false := bne_eq_false_iff_eq.mpr c4
    clear c4
    obtain rfl := Option.some.inj H
    go_enter Tryd.func24, Tryd.ntmps24
    go_wp2
    go_ret
    exact ⟨by first | rfl | (simp; done) | (simp [*]; done), by repeat (first | exact Drawn0.refl _ | apply Drawn0.step)⟩
   ·rw [if_neg c4] at H
    have c4b0 : (a0 == 4) = false := beq_eq_false_iff_ne.mpr c4
    have c4b1 : (a0 != 4) = true := bne_iff_ne.mpr c4
    by_cases c5 : a0 = 8
    ·rw [if_pos c5] at H
     have c5b0 : (a0 == 8) = true := beq_iff_eq.mpr c5
     have c5b1 : (a0 != 8) = false := bne_eq_false_iff_eq.mpr c5
     clear c5
     obtain rfl := Option.some.inj H
     go_enter Tryd.func24, Tryd.ntmps24
     go_wp2
     go_ret
     exact ⟨by first | rfl | (simp; done) | (simp [*]; done), by repeat (first | exact Drawn0.refl _ | apply Drawn0.step)⟩
    ·rw [if_neg c5] at H
     have c5b0 : (a0 == 8) = false := beq_eq_false_iff_ne.mpr c5
     have c5b1 : (a0 != 8) = true := bne_iff_ne.mpr c5
     by_cases c6 : a0 = 16
     ·rw [if_pos c6] at H
      have c6b0 : (a0 == 16) = true := beq_iff_eq.mpr c6
      have c6b1 : (a0 != 16) = false := bne_eq_false_iff_eq.mpr c6
      clear c6
      obtain rfl := Option.some.inj H
      go_enter Tryd.func24, Tryd.ntmps24
      go_wp2
      go_ret
      exact ⟨by first | rfl | (simp; done) | (simp [*]; done), by repeat (first | exact Drawn0.refl _ | apply Drawn0.step)⟩
     ·rw [if_neg c6] at H
      have c6b0 : (a0 == 16) = false := beq_eq_false_iff_ne.mpr c6
      have c6b1 : (a0 != 16) = true := bne_iff_ne.mpr c6
      by_cases c7 : a0 = 32
      ·rw [if_pos c7] at H
       have c7b0 : (a0 == 32) = true := beq_iff_eq.mpr c7
       have c7b1 : (a0 != 32) = false := bne_eq_false_iff_eq.mpr c7
       clear c7
       obtain rfl := Option.some.inj H
       go_enter Tryd.func24, Tryd.ntmps24
       go_wp2
       go_ret
       exact ⟨by first | rfl | (simp; done) | (simp [*]; done), by repeat (first | exact Drawn0.refl _ | apply Drawn0.step)⟩
      ·rw [if_neg c7] at H
       have c7b0 : (a0 == 32) = false := beq_eq_false_iff_ne.mpr c7
       have c7b1 : (a0 != 32) = true := bne_iff_ne.mpr c7
       obtain rfl := Option.some.inj H
       go_enter Tryd.func24, Tryd.ntmps24
       go_wp2
       go_ret
       exact ⟨by first | rfl | (simp; done) | (simp [*]; done), by repeat (first | exact Drawn0.refl _ | apply Drawn0.step)⟩

/-! ### earshotref02_All: function 25 -/
def earshotref02_All.l0 : Nat → List Int → Int → Int → Int → Option (Bool)
 | 0, _, _, _, _ => none
 | k + 1, x0, x1, x2, x7 => if x7 < (x0.length : Int) then (if 0 ≤ x7 then (if (rd x0 x7) < x1 then (some false) else (if (rd x0 x7) > x2 then (some false) else (earshotref02_All.l0 k x0 x1 x2 (wrap64 (x7 + 1))))) else (none)) else (some true)
def earshotref02_All.f (k : Nat) (l0 : List Int) (a1 : Int) (a2 : Int) : Option (Bool) := earshotref02_All.l0 k l0 a1 a2 0
theorem earshotref02_All.mono_l : ∀ k, (∀ y0 y1 y2 y3, LeO (earshotref02_All.l0 k y0 y1 y2 y3) (earshotref02_All.l0 (k + 1) y0 y1 y2 y3))
 | 0 => fun _ _ _ _ r h => by simp [earshotref02_All.l0] at h
 | k + 1 => by
  have ih0 := earshotref02_All.mono_l k
  ·intro y0 y1 y2 y3
   unfold earshotref02_All.l0
   repeat' first
   | (with_reducible exact ih0 _ _ _ _)
   | (with_reducible exact LeO.refl _)
   | (with_reducible exact LeO.none _)
   | (with_reducible refine LeO.ite ?_ ?_)
   | (with_reducible refine LeO.bind ?_ (fun _ => ?_))
   | exact ih0 _ _ _ _
   | exact LeO.none _
   | refine LeO.ite ?_ ?_
   | refine LeO.bind ?_ (fun _ => ?_)
theorem earshotref02_All.mono : ∀ a0 a1 a2 k, LeO (earshotref02_All.f k a0 a1 a2) (earshotref02_All.f (k + 1) a0 a1 a2) := by
 intro a0 a1 a2 k
 have ih0 := earshotref02_All.mono_l k
 unfold earshotref02_All.f
 repeat' first
   | (with_reducible exact ih0 _ _ _ _)
   | (with_reducible exact LeO.refl _)
   | (with_reducible exact LeO.none _)
   | (with_reducible refine LeO.ite ?_ ?_)
   | (with_reducible refine LeO.bind ?_ (fun _ => ?_))
   | exact ih0 _ _ _ _
   | exact LeO.none _
   | refine LeO.ite ?_ ?_
   | refine LeO.bind ?_ (fun _ => ?_)
set_option maxHeartbeats 8000000 in
set_option maxRecDepth 100000 in
theorem earshotref02_All.calls (k : Nat) (A0 : Option Addr) (c0 : Nat) (l0 : List Int) (a1 : Int) (a2 : Int) (r : Bool) (w : World) (hr0 : Kd.C (Kd.int .i64) w A0 l0.length l0) (hc0 : l0.length ≤ c0) (h : earshotref02_All.f k l0 a1 a2 = some r) :
  Calls Tryd.prog 25 #[.slice A0 l0.length c0, .int .i64 a1, .int .i64 a2] w fun e w' => e = .returned (.bool r) ∧ Drawn0 w w' := by
 have HR0 := Aside0.mk hr0
 have HC0 := Aside0.mk hc0
 clear hr0 hc0
 have H : (earshotref02_All.l0 k l0 a1 a2 0) = some r := h
 clear h
 have H' := Aside0.mk H
 clear H
 go_enter Tryd.func25, Tryd.ntmps25
 go_wp2
 go_loopg [7] k (fun kq v7 w' => ∃ (x7_1 : Int), v7 = .int .i64 x7_1 ∧ Aside0 (earshotref02_All.l0 kq l0 a1 a2 x7_1 = some r) ∧ Aside0 (kq ≤ k) ∧ Drawn0 w w')
 case atStart => exact ⟨(0), (by first | rfl | (simp; done) | (simp only [i64_w]; done) | (simp [*]; done)), H', ⟨Nat.le_refl _⟩, by repeat (first | exact Drawn0.refl _ | apply Drawn0.step)⟩
 case round =>
  clear H'
  try clear c2
  try clear p2
  obtain ⟨x7_1, rfl, HA, HK1, ⟨m1, rfl⟩⟩ := hrel
  cases gk with
  | zero => exact absurd HA.out (by simp [earshotref02_All.l0])
  | succ k1 =>
   have H := HA.out
   clear HA
   simp only [earshotref02_All.l0] at H
   by_cases c4 : x7_1 < (l0.length : Int)
   ·rw [if_pos c4] at H
    have c4b0 : decide (x7_1 < (l0.length : Int)) = true := decide_eq_true c4
    clear c4
    by_cases c5 : 0 ≤ x7_1
    ·rw [if_pos c5] at H
     have c5b0 : decide (0 ≤ x7_1) = true := decide_eq_true c5
     clear c5
     by_cases c6 : (rd l0 x7_1) < a1
     ·rw [if_pos c6] at H
      have c6b0 : decide ((rd l0 x7_1) < a1) = true := decide_eq_true c6
      clear c6
      obtain rfl := Option.some.inj H
      have p101 : 0 ≤ (x7_1 : Int) := of_decide_eq_true (by first | (with_reducible assumption) | assumption)
      have q101 : x7_1 < (l0.length : Int) := of_decide_eq_true (by first | (with_reducible assumption) | assumption)
      obtain ⟨ad101, e101, hx101_0⟩ := Kd.at_int HR0.out x7_1 p101 q101
      cases e101
      replace p101 := eq_true p101
      replace q101 := eq_true q101
      go_wp2
      go_ret
      exact ⟨by first | rfl | (simp; done) | (simp [*]; done), by repeat (first | exact Drawn0.refl _ | apply Drawn0.step)⟩
     ·rw [if_neg c6] at H
      have c6b0 : decide ((rd l0 x7_1) < a1) = false := decide_eq_false c6
      clear c6
      by_cases c7 : (rd l0 x7_1) > a2
      ·rw [if_pos c7] at H
       have c7b0 : decide (a2 < (rd l0 x7_1)) = true := decide_eq_true c7
       clear c7
       obtain rfl := Option.some.inj H
       have p101 : 0 ≤ (x7_1 : Int) := of_decide_eq_true (by first | (with_reducible assumption) | assumption)
       have q101 : x7_1 < (l0.length : Int) := of_decide_eq_true (by first | (with_reducible assumption) | assumption)
       obtain ⟨ad101, e101, hx101_0⟩ := Kd.at_int HR0.out x7_1 p101 q101
       cases e101
       replace p101 := eq_true p101
       replace q101 := eq_true q101
       have p102 : 0 ≤ (x7_1 : Int) := of_decide_eq_true (by first | (with_reducible assumption) | assumption)
       have q102 : x7_1 < (l0.length : Int) := of_decide_eq_true (by first | (with_reducible assumption) | assumption)
       obtain ⟨ad102, e102, hx102_0⟩ := Kd.at_int HR0.out x7_1 p102 q102
       obtain rfl : ad101 = ad102 := (by injection e102)
       replace p102 := eq_true p102
       replace q102 := eq_true q102
       go_wp2
       go_ret
       exact ⟨by first | rfl | (simp; done) | (simp [*]; done), by repeat (first | exact Drawn0.refl _ | apply Drawn0.step)⟩
      ·rw [if_neg c7] at H
       have c7b0 : decide (a2 < (rd l0 x7_1)) = false := decide_eq_false c7
       clear c7
       have H' := Aside0.mk H
       clear H
       have p101 : 0 ≤ (x7_1 : Int) := of_decide_eq_true (by first | (with_reducible assumption) | assumption)
       have q101 : x7_1 < (l0.length : Int) := of_decide_eq_true (by first | (with_reducible assumption) | assumption)
       obtain ⟨ad101, e101, hx101_0⟩ := Kd.at_int HR0.out x7_1 p101 q101
       cases e101
       replace p101 := eq_true p101
       replace q101 := eq_true q101
       have p102 : 0 ≤ (x7_1 : Int) := of_decide_eq_true (by first | (with_reducible assumption) | assumption)
       have q102 : x7_1 < (l0.length : Int) := of_decide_eq_true (by first | (with_reducible assumption) | assumption)
       obtain ⟨ad102, e102, hx102_0⟩ := Kd.at_int HR0.out x7_1 p102 q102
       obtain rfl : ad101 = ad102 := (by injection e102)
       replace p102 := eq_true p102
       replace q102 := eq_true q102
       go_wp2
       go_roundg k1
       case measure => have := HK1.out; omega
       case rel => exact ⟨(wrap64 (x7_1 + 1)), (by first | rfl | (simp; done) | (simp only [i64_w]; done) | (simp [*]; done)), H', ⟨by have := HK1.out; omega⟩, by repeat (first | exact Drawn0.refl _ | apply Drawn0.step)⟩
    ·rw [if_neg c5] at H
     exact absurd H (by simp)
   ·rw [if_neg c4] at H
    have c4b0 : decide (x7_1 < (l0.length : Int)) = false := decide_eq_false c4
    clear c4
    obtain rfl := Option.some.inj H
    go_wp2
    go_ret
    exact ⟨by first | rfl | (simp; done) | (simp [*]; done), by repeat (first | exact Drawn0.refl _ | apply Drawn0.step)⟩

/-! ### earshotref02_Round: function 83 -/
def earshotref02_Round.f : Nat → Int → Int → Option (Int)
 | 0, _, _ => none
 | k + 1, a0, a1 => if a0 < 0 then ((earshotref02_Round.f k (wrap64 (-a0)) a1).bind fun t101 => (some (wrap64 (-t101)))) else (if (wrap64 (2 * a1)) = 0 then (none) else (some (wrap64 (Int.tdiv (wrap64 ((wrap64 (2 * a0)) + a1)) (wrap64 (2 * a1))))))
theorem earshotref02_Round.mono_l : ∀ k, (∀ y0 y1, LeO (earshotref02_Round.f k y0 y1) (earshotref02_Round.f (k + 1) y0 y1))
 | 0 => fun _ _ r h => by simp [earshotref02_Round.f] at h
 | k + 1 => by
  have ih0 := earshotref02_Round.mono_l k
  ·intro y0 y1
   unfold earshotref02_Round.f
   repeat' first
   | (with_reducible exact ih0 _ _)
   | (with_reducible exact LeO.refl _)
   | (with_reducible exact LeO.none _)
   | (with_reducible refine LeO.ite ?_ ?_)
   | (with_reducible refine LeO.bind ?_ (fun _ => ?_))
   | exact ih0 _ _
   | exact LeO.none _
   | refine LeO.ite ?_ ?_
   | refine LeO.bind ?_ (fun _ => ?_)
theorem earshotref02_Round.mono : ∀ a0 a1 k, LeO (earshotref02_Round.f k a0 a1) (earshotref02_Round.f (k + 1) a0 a1) := by
 intro a0 a1 k
 have ih0 := earshotref02_Round.mono_l k
 exact ih0 a0 a1
set_option maxHeartbeats 8000000 in
set_option maxRecDepth 100000 in
theorem earshotref02_Round.calls (k : Nat) : ∀ (a0 : Int) (a1 : Int) (r : Int) (w : World) (h : earshotref02_Round.f k a0 a1 = some r),
  Calls Tryd.prog 83 #[.int .i64 a0, .int .i64 a1] w fun e w' => e = .returned (.int .i64 r) ∧ Drawn0 w w' := by
 induction k using Nat.strongRecOn with
 | _ k ih =>
 intro a0 a1 r w h
 cases k with
 | zero => exact absurd h (by simp [earshotref02_Round.f])
 | succ k =>
 simp only [earshotref02_Round.f] at h
 have H : (if a0 < 0 then ((earshotref02_Round.f k (wrap64 (-a0)) a1).bind fun t101 => (some (wrap64 (-t101)))) else (if (wrap64 (2 * a1)) = 0 then (none) else (some (wrap64 (Int.tdiv (wrap64 ((wrap64 (2 * a0)) + a1)) (wrap64 (2 * a1))))))) = some r := h
 clear h
 by_cases c3 : a0 < 0
 ·rw [if_pos c3] at H
  have c3b0 : decide (a0 < 0) = true := decide_eq_true c3
  clear c3
  replace H := Option.bind_eq_some_iff.mp H
  obtain ⟨t101, A40, H⟩ := H
  replace H : (some (wrap64 (-t101))) = some r := H
  have A4 := Aside0.mk A40
  clear A40
  obtain rfl := Option.some.inj H
  go_enter Tryd.func83, Tryd.ntmps83
  go_wp2_with (first | ((with_reducible refine gate_callee (f := 83) rfl ?_); refine goesL_ (some 10) rfl rfl Tryd.func83 (by kernel_rfl) rfl #[.int .i64 (wrap64 (-a0)), .int .i64 a1] rfl (by (try simp only [List.map_toArray, List.map_cons, List.map_nil]); first | done | rfl | (simp only [List.length_drop, List.length_take]; rfl)) ?_; (with_reducible refine (ih k (by omega) (wrap64 (-a0)) a1 t101 _ A4.out).mono ?_); rintro e w' ⟨rfl, ⟨nd, rfl⟩⟩; refine ⟨_, rfl, ?_⟩))
  go_ret
  exact ⟨by first | rfl | (simp; done) | (simp [*]; done), by repeat (first | exact Drawn0.refl _ | apply Drawn0.step)⟩
 ·rw [if_neg c3] at H
  have c3b0 : decide (a0 < 0) = false := decide_eq_false c3
  clear c3
  by_cases c5 : (wrap64 (2 * a1)) = 0
  ·rw [if_pos c5] at H
   exact absurd H (by simp)
  ·rw [if_neg c5] at H
   have c5b0 : ((wrap64 (2 * a1)) == 0) = false := beq_eq_false_iff_ne.mpr c5
   have c5b1 : ((wrap64 (2 * a1)) != 0) = true := bne_iff_ne.mpr c5
   obtain rfl := Option.some.inj H
   go_enter Tryd.func83, Tryd.ntmps83
   go_wp2
   go_ret
   exact ⟨by first | rfl | (simp; done) | (simp [*]; done), by repeat (first | exact Drawn0.refl _ | apply Drawn0.step)⟩

end Go.Proofs.YtdlbmbijobcljaaDoor.X

namespace Go.Proofs.YtdlbmbijobcljaaDoor.Pure
open Go.RowKit Go.Proofs.YtdlbmbijobcljaaDoor.X Go.Proofs.YtdlbmbijobcljaaDoorW.PrintWords Go.Proofs.YtdlbmbijobcljaaDoorW.PrintLast
set_option linter.unusedVariables false
set_option linter.unusedSimpArgs false
theorem w64 {n : Int} (h0 : -9223372036854775808 ≤ n) (h1 : n ≤ 9223372036854775807) : wrap64 n = n := by unfold wrap64; omega
/-- The nearest integer of x/d, halves away from zero. -/
def rnd (x d : Int) : Int := if x < 0 then -((2 * (-x) + d) / (2 * d)) else (2 * x + d) / (2 * d)
theorem rnd_abs_le (x d b : Int) (hd : 0 < d) (h0 : -(b * d) ≤ x) (h1 : x ≤ b * d) : -b ≤ rnd x d ∧ rnd x d ≤ b := by
  have key : ∀ y : Int, 0 ≤ y → y ≤ b * d → 0 ≤ (2 * y + d) / (2 * d) ∧ (2 * y + d) / (2 * d) ≤ b := by
    intro y hy hyb
    refine ⟨Int.ediv_nonneg (by omega) (by omega), ?_⟩
    have : (2 * y + d) / (2 * d) < b + 1 := by
      apply Int.ediv_lt_of_lt_mul (by omega)
      have : (b + 1) * (2 * d) = 2 * (b * d) + 2 * d := by rw [Int.add_mul, Int.mul_left_comm]; omega
      omega
    omega
  unfold rnd
  split
  · have := key (-x) (by omega) (by omega)
    omega
  · have := key x (by omega) (by omega)
    omega
theorem round_pos (x d : Int) (hx : 0 ≤ x) (hx1 : x ≤ 4611686018427387903) (hd : 0 < d) (hd1 : d ≤ 1099511627776) (hs : 2 * x + d ≤ 9223372036854775807) (k : Nat) : earshotref02_Round.f (k + 1) x d = some ((2 * x + d) / (2 * d)) := by
  unfold earshotref02_Round.f
  rw [if_neg (by omega), w64 (n := 2 * d) (by omega) (by omega), if_neg (by omega), w64 (n := 2 * x) (by omega) (by omega), w64 (n := 2 * x + d) (by omega) (by omega), Int.tdiv_eq_ediv_of_nonneg (by omega)]
  have h0 : 0 ≤ (2 * x + d) / (2 * d) := Int.ediv_nonneg (by omega) (by omega)
  have h1 : (2 * x + d) / (2 * d) ≤ 2 * x + d := Int.ediv_le_self _ (by omega)
  rw [w64 (by omega) (by omega)]
theorem round_ev (x d : Int) (hx0 : -4611686018427387903 ≤ x) (hx1 : x ≤ 4611686018427387903) (hd : 0 < d) (hd1 : d ≤ 1099511627776) (hs0 : -(2 * x) + d ≤ 9223372036854775807) (hs : 2 * x + d ≤ 9223372036854775807) : Ev (fun k => earshotref02_Round.f k x d) (rnd x d) := by
  refine ⟨2, fun k hk => ?_⟩
  obtain ⟨m, rfl⟩ : ∃ m, k = m + 2 := ⟨k - 2, by omega⟩
  by_cases h : x < 0
  · have h2 : 0 ≤ (2 * (-x) + d) / (2 * d) := Int.ediv_nonneg (by omega) (by omega)
    have h3 : (2 * (-x) + d) / (2 * d) ≤ 2 * (-x) + d := Int.ediv_le_self _ (by omega)
    show earshotref02_Round.f (m + 1 + 1) x d = _
    rw [earshotref02_Round.f, if_pos h, w64 (by omega) (by omega), round_pos (-x) d (by omega) (by omega) hd hd1 (by omega), Option.bind_some, w64 (by omega) (by omega)]
    unfold rnd
    rw [if_pos h]
  · show earshotref02_Round.f (m + 1 + 1) x d = _
    rw [round_pos x d (by omega) hx1 hd hd1 hs]
    unfold rnd
    rw [if_neg h]
theorem far_pos (x d : Int) (hx : 0 ≤ x) (hx1 : x ≤ 4611686018427387903) (hd : 0 < d) (hd1 : d ≤ 1099511627776) (k : Nat) : feature_far.f (k + 1) x d = some ((2 * x + d) / (2 * d)) := by
  rw [feature_far.f, if_neg (by omega), if_neg (by omega), Int.tdiv_eq_ediv_of_nonneg hx, Int.tmod_eq_emod_of_nonneg hx]
  have h0 := Int.emod_nonneg x (by omega : d ≠ 0)
  have h1 := Int.emod_lt_of_pos x hd
  have h2 := Int.mul_ediv_add_emod x d
  have h3 : 0 ≤ x / d := Int.ediv_nonneg hx (by omega)
  have h4 : x / d ≤ x := Int.ediv_le_self _ hx
  rw [w64 (n := d - x % d) (by omega) (by omega)]
  have e : 2 * x + d = (2 * (x % d) + d) + (x / d) * (2 * d) := by
    have : (x / d) * (2 * d) = 2 * (d * (x / d)) := by rw [Int.mul_left_comm, Int.mul_comm (x / d) d]
    omega
  have e2 : (2 * x + d) / (2 * d) = (2 * (x % d) + d) / (2 * d) + x / d := by rw [e, Int.add_mul_ediv_right _ _ (by omega : 2 * d ≠ 0)]
  by_cases hc : x % d ≥ d - x % d
  · rw [if_pos hc, w64 (n := x / d) (by omega) (by omega), w64 (n := x / d + 1) (by omega) (by omega), e2]
    have : (2 * (x % d) + d) / (2 * d) = 1 := by
      have a1 : 1 ≤ (2 * (x % d) + d) / (2 * d) := by rw [Int.le_ediv_iff_mul_le (by omega)]; omega
      have a2 : (2 * (x % d) + d) / (2 * d) < 2 := Int.ediv_lt_of_lt_mul (by omega) (by omega)
      omega
    rw [this, Int.add_comm]
  · rw [if_neg hc, w64 (n := x / d) (by omega) (by omega), e2, (Int.ediv_eq_zero_of_lt (by omega) (by omega) : (2 * (x % d) + d) / (2 * d) = 0), Int.zero_add]
theorem far_ev (x d : Int) (hx0 : -4611686018427387903 ≤ x) (hx1 : x ≤ 4611686018427387903) (hd : 0 < d) (hd1 : d ≤ 1099511627776) : Ev (fun k => feature_far.f k x d) (rnd x d) := by
  refine ⟨2, fun k hk => ?_⟩
  obtain ⟨m, rfl⟩ : ∃ m, k = m + 2 := ⟨k - 2, by omega⟩
  by_cases h : x < 0
  · have h2 : 0 ≤ (2 * (-x) + d) / (2 * d) := Int.ediv_nonneg (by omega) (by omega)
    have h3 : (2 * (-x) + d) / (2 * d) ≤ (-x) := by
      have : (2 * (-x) + d) / (2 * d) < (-x) + 1 := by
        apply Int.ediv_lt_of_lt_mul (by omega)
        have e : (-x + 1) * (2 * d) = 2 * ((-x) * d) + 2 * d := by rw [Int.add_mul, Int.mul_left_comm]; omega
        have : (-x) * 1 ≤ (-x) * d := Int.mul_le_mul_of_nonneg_left (by omega) (by omega)
        omega
      omega
    show feature_far.f (m + 1 + 1) x d = _
    rw [feature_far.f, if_pos h, w64 (by omega) (by omega), far_pos (-x) d (by omega) (by omega) hd hd1, Option.bind_some, w64 (by omega) (by omega)]
    unfold rnd
    rw [if_pos h]
  · show feature_far.f (m + 1 + 1) x d = _
    rw [far_pos x d (by omega) hx1 hd hd1]
    unfold rnd
    rw [if_neg h]
/-- Is it a length of a transform? -/
def isLen (n : Nat) : Bool := n == 1 || n == 2 || n == 4 || n == 8 || n == 16 || n == 32 || n == 64
theorem possible_small : ∀ n : Nat, n < 200 → feature_possible.f (n : Int) = some (isLen n) := by decide +kernel
theorem length_small : ∀ n : Nat, n < 200 → earshotref03_Length.f (n : Int) = some (isLen n) := by decide +kernel
theorem possible_at (n : Nat) : feature_possible.f (n : Int) = some (isLen n) := by
  by_cases h : n < 200
  · exact possible_small n h
  · unfold feature_possible.f
    rw [if_pos (by omega), if_neg (by omega)]
    have : isLen n = false := by simp only [isLen, Bool.or_eq_false_iff, beq_eq_false_iff_ne]; omega
    rw [this]
theorem length_at (n : Nat) : earshotref03_Length.f (n : Int) = some (isLen n) := by
  by_cases h : n < 200
  · exact length_small n h
  · unfold earshotref03_Length.f
    rw [if_neg (by omega), if_neg (by omega), if_neg (by omega), if_neg (by omega), if_neg (by omega), if_neg (by omega)]
    have : isLen n = false := by simp only [isLen, Bool.or_eq_false_iff, beq_eq_false_iff_ne]; omega
    have e : ((n : Int) == 64) = false := by simp only [beq_eq_false_iff_ne]; omega
    rw [this, e]
theorem isLen_dvd (n : Nat) (h : isLen n = true) : 0 < n ∧ n ≤ 64 ∧ (n : Int) * ((64 : Int) / n) = 64 ∧ 1 ≤ (64 : Int) / n ∧ (64 : Int) / n ≤ 64 := by
  simp only [isLen, Bool.or_eq_true, beq_iff_eq] at h
  rcases h with ((((((h | h) | h) | h) | h) | h) | h) <;> subst h <;> decide
/-- All within bounds. -/
def allIn (l : List Int) (a b : Int) : Bool := l.all fun x => decide (a ≤ x) && decide (x ≤ b)
theorem rd_nat (l : List Int) (j : Nat) : rd l (j : Int) = l.getD j 0 := by unfold rd; rw [Int.toNat_natCast]
theorem all_ev (l : List Int) (a b : Int) (hl : l.length ≤ 4611686018427387904) : Ev (fun k => earshotref02_All.f k l a b) (allIn l a b) := by
  have key : ∀ r j : Nat, j + r = l.length → Ev (fun k => earshotref02_All.l0 k l a b (j : Int)) (allIn (l.drop j) a b) := by
    intro r
    induction r with
    | zero =>
      intro j hj
      refine ⟨1, fun k hk => ?_⟩
      obtain ⟨m, rfl⟩ : ∃ m, k = m + 1 := ⟨k - 1, by omega⟩
      simp only [earshotref02_All.l0]
      rw [if_neg (by omega), List.drop_of_length_le (by omega)]
      rfl
    | succ r ih =>
      intro j hj
      have hjl : j < l.length := by omega
      have e : l.drop j = l[j] :: l.drop (j + 1) := List.drop_eq_getElem_cons hjl
      have er : rd l (j : Int) = l[j] := by rw [rd_nat, List.getD_eq_getElem?_getD, List.getElem?_eq_getElem hjl]; rfl
      obtain ⟨K, hK⟩ := ih (j + 1) (by omega)
      refine ⟨K + 1, fun k hk => ?_⟩
      obtain ⟨m, rfl⟩ : ∃ m, k = m + 1 := ⟨k - 1, by omega⟩
      simp only [earshotref02_All.l0]
      rw [if_pos (by omega), if_pos (by omega), er, e]
      by_cases h1 : l[j] < a
      · rw [if_pos h1]
        simp only [allIn, List.all_cons, (by simpa using h1 : decide (a ≤ l[j]) = false), Bool.false_and]
      · rw [if_neg h1]
        by_cases h2 : l[j] > b
        · rw [if_pos h2]
          simp only [allIn, List.all_cons, (by simpa using h2 : decide (l[j] ≤ b) = false), Bool.and_false, Bool.false_and]
        · rw [if_neg h2, w64 (by omega) (by omega)]
          have : earshotref02_All.l0 m l a b ((j + 1 : Nat) : Int) = some (allIn (l.drop (j + 1)) a b) := hK m (by omega)
          rw [show (j : Int) + 1 = ((j + 1 : Nat) : Int) by omega, this]
          simp only [allIn, List.all_cons, (by simp; omega : decide (a ≤ l[j]) = true), (by simp; omega : decide (l[j] ≤ b) = true), Bool.true_and]
  exact key l.length 0 (by omega)
theorem within_at (l : List Int) (b : Int) (h0 : 0 ≤ b) (h1 : b ≤ 9223372036854775807) : feature_within.f l b = some (allIn l (-b) b) := by
  unfold feature_within.f allIn
  congr 1
  rw [List.not_any_eq_all_not]
  congr 1
  funext x
  unfold beyond
  rw [w64 (by omega) (by omega)]
  by_cases h1 : x < -b <;> by_cases h2 : b < x <;> simp [h1, h2] <;> omega
theorem same_ev (l m : List Int) (hlm : l = m) (hl : l.length ≤ 4611686018427387904) : Ev (fun k => earshotref02_Same.f k l m) true := by
  subst hlm
  have key : ∀ r j : Nat, j + r = l.length → Ev (fun k => earshotref02_Same.l0 k l l (j : Int)) true := by
    intro r
    induction r with
    | zero =>
      intro j hj
      refine ⟨1, fun k hk => ?_⟩
      obtain ⟨m, rfl⟩ : ∃ m, k = m + 1 := ⟨k - 1, by omega⟩
      simp only [earshotref02_Same.l0]
      rw [if_neg (by omega)]
    | succ r ih =>
      intro j hj
      obtain ⟨K, hK⟩ := ih (j + 1) (by omega)
      refine ⟨K + 1, fun k hk => ?_⟩
      obtain ⟨m, rfl⟩ : ∃ m, k = m + 1 := ⟨k - 1, by omega⟩
      simp only [earshotref02_Same.l0]
      rw [if_pos (by omega), if_pos (by omega), if_pos (by omega), if_pos trivial, w64 (by omega) (by omega), show (j : Int) + 1 = ((j + 1 : Nat) : Int) by omega]
      exact hK m (by omega)
  refine Ev.congr (fun k => ?_) (key l.length 0 (by omega))
  unfold earshotref02_Same.f
  rw [if_pos rfl]
  rfl
theorem cosv_range (j : Int) : -16384 ≤ cosv j ∧ cosv j ≤ 16384 := by
  unfold cosv
  have a := tab_range (j % 256); have b := tab_range (128 - j % 256); have c := tab_range (j % 256 - 128); have d := tab_range (256 - j % 256)
  split
  · omega
  · split
    · omega
    · split <;> omega
/-- The number that digits of 32 bits write, the least first. -/
def val : List Int → Int
  | [] => 0
  | d :: ds => d + 4294967296 * val ds
def Dig (l : List Int) : Prop := ∀ x ∈ l, 0 ≤ x ∧ x < 4294967296
def pw (p : Nat) : Int := 4294967296 ^ p
theorem pw_zero : pw 0 = 1 := rfl
theorem pw_succ (p : Nat) : pw (p + 1) = pw p * 4294967296 := Int.pow_succ _ _
theorem pw_pos (p : Nat) : 0 < pw p := Int.pow_pos (by omega)
theorem pw_add (p q : Nat) : pw (p + q) = pw p * pw q := Int.pow_add _ _ _
theorem val_nonneg (l : List Int) (h : Dig l) : 0 ≤ val l := by
  induction l with
  | nil => exact Int.le_refl _
  | cons d ds ih =>
    have h1 := h d List.mem_cons_self
    have h2 := ih (fun x hx => h x (List.mem_cons_of_mem _ hx))
    simp only [val]
    omega
theorem val_set : ∀ (z : List Int) (p : Nat) (v : Int), p < z.length → val (z.set p v) = val z + (v - z.getD p 0) * pw p
  | [], p, v, h => by simp at h
  | d :: ds, 0, v, _ => by simp only [List.set_cons_zero, val, List.getD_cons_zero, pw_zero]; omega
  | d :: ds, p + 1, v, h => by
    have := val_set ds p v (by simpa using h)
    simp only [List.set_cons_succ, val, List.getD_cons_succ, pw_succ]
    rw [this, Int.mul_add, ← Int.mul_assoc (v - ds.getD p 0), Int.mul_comm ((v - ds.getD p 0) * pw p)]
    omega
theorem val_append : ∀ (a b : List Int), val (a ++ b) = val a + pw a.length * val b
  | [], b => by simp [val, pw_zero]
  | d :: ds, b => by
    simp only [List.cons_append, val, List.length_cons, pw_succ]
    rw [val_append ds b, Int.mul_add, Int.mul_comm (pw ds.length) 4294967296, Int.mul_assoc]
    omega
theorem val_zeros (n : Nat) : val (List.replicate n 0) = 0 := by
  induction n with
  | zero => rfl
  | succ n ih => rw [List.replicate_succ]; simp only [val, ih]; omega
theorem val_take (b : List Int) (j : Nat) (h : j < b.length) : val (b.take (j + 1)) = val (b.take j) + b.getD j 0 * pw j := by
  rw [List.take_add_one, List.getElem?_eq_getElem h, val_append]
  simp only [Option.toList_some, val, List.length_take, Nat.min_eq_left (Nat.le_of_lt h), Int.mul_zero, Int.add_zero]
  rw [List.getD_eq_getElem?_getD, List.getElem?_eq_getElem h, Int.mul_comm]
  rfl
theorem dig_set (z : List Int) (h : Dig z) (p : Nat) (v : Int) (h0 : 0 ≤ v) (h1 : v < 4294967296) : Dig (z.set p v) := by
  intro x hx
  rcases List.mem_or_eq_of_mem_set hx with hx | rfl
  · exact h x hx
  · exact ⟨h0, h1⟩
theorem dig_zeros (n : Nat) : Dig (List.replicate n 0) := by
  intro x hx
  rw [(List.mem_replicate.1 hx).2]
  omega
theorem dig_get (z : List Int) (h : Dig z) (p : Nat) : 0 ≤ z.getD p 0 ∧ z.getD p 0 < 4294967296 := by
  rw [List.getD_eq_getElem?_getD]
  rcases Nat.lt_or_ge p z.length with hp | hp
  · rw [List.getElem?_eq_getElem hp]; exact h _ (List.getElem_mem hp)
  · rw [List.getElem?_eq_none hp]; simp
/-- One row of the schoolbook product: r digits are still to come. -/
def rowF (ai : Int) (b : List Int) (i : Nat) : Nat → Nat → List Int → Int → List Int
  | 0, j, z, c => z.set (i + j) (c % 4294967296)
  | r + 1, j, z, c => rowF ai b i r (j + 1) (z.set (i + j) ((c + z.getD (i + j) 0 + ai * b.getD j 0) % 4294967296)) ((c + z.getD (i + j) 0 + ai * b.getD j 0) / 4294967296)
def prodF (a b : List Int) : Nat → Nat → List Int → List Int
  | 0, i, z => z
  | r + 1, i, z => prodF a b r (i + 1) (rowF (a.getD i 0) b i b.length 0 z 0)
def prod (a b : List Int) : List Int := prodF a b a.length 0 (List.replicate (a.length + b.length) 0)
theorem step_bound (c z a b : Int) (hc : 0 ≤ c ∧ c < 4294967296) (hz : 0 ≤ z ∧ z < 4294967296) (ha : 0 ≤ a ∧ a < 4294967296) (hb : 0 ≤ b ∧ b < 4294967296) : 0 ≤ a * b ∧ c + z + a * b < 18446744073709551616 := by
  have h1 : 0 ≤ a * b := Int.mul_nonneg ha.1 hb.1
  have h2 : a * b ≤ 4294967295 * 4294967295 := Int.le_trans (Int.mul_le_mul_of_nonneg_right (by omega) hb.1) (Int.mul_le_mul_of_nonneg_left (by omega) (by omega))
  omega
theorem row_ok (ai : Int) (hai : 0 ≤ ai ∧ ai < 4294967296) (b : List Int) (hb : Dig b) (i : Nat) :
    ∀ (r j : Nat) (z : List Int) (c : Int), j + r = b.length → Dig z → 0 ≤ c ∧ c < 4294967296 → i + b.length < z.length → (∀ p, i + b.length ≤ p → z.getD p 0 = 0) →
      (rowF ai b i r j z c).length = z.length ∧ Dig (rowF ai b i r j z c) ∧ (∀ p, i + 1 + b.length ≤ p → (rowF ai b i r j z c).getD p 0 = 0) ∧
      val (rowF ai b i r j z c) + ai * val (b.take j) * pw i = val z + c * pw (i + j) + ai * val b * pw i := by
  intro r
  induction r with
  | zero =>
    intro j z c hj hz hc hl hzero
    simp only [rowF]
    refine ⟨by simp, dig_set z hz _ _ (by omega) (by omega), fun p hp => ?_, ?_⟩
    · rw [List.getD_eq_getElem?_getD, List.getElem?_set, if_neg (by omega), ← List.getD_eq_getElem?_getD]
      exact hzero p (by omega)
    · rw [val_set z (i + j) _ (by omega), hzero (i + j) (by omega), Int.emod_eq_of_lt hc.1 hc.2, List.take_of_length_le (by omega), Int.sub_zero]
  | succ r ih =>
    intro j z c hj hz hc hl hzero
    simp only [rowF]
    have hzj := dig_get z hz (i + j)
    have hbj := dig_get b hb j
    have hst := step_bound c (z.getD (i + j) 0) ai (b.getD j 0) hc hzj hai hbj
    generalize ht : c + z.getD (i + j) 0 + ai * b.getD j 0 = t at hst ⊢
    have ht0 : 0 ≤ t := by omega
    have hm0 := Int.emod_nonneg t (by omega : (4294967296 : Int) ≠ 0)
    have hm1 := Int.emod_lt_of_pos t (by omega : (0 : Int) < 4294967296)
    have hd := Int.mul_ediv_add_emod t 4294967296
    have hq0 : 0 ≤ t / 4294967296 := Int.ediv_nonneg ht0 (by omega)
    have hq1 : t / 4294967296 < 4294967296 := by omega
    obtain ⟨h1, h2, h3, h4⟩ := ih (j + 1) (z.set (i + j) (t % 4294967296)) (t / 4294967296) (by omega) (dig_set z hz _ _ hm0 hm1) ⟨hq0, hq1⟩ (by simpa using hl) (fun p hp => by
      rw [List.getD_eq_getElem?_getD, List.getElem?_set, if_neg (by omega), ← List.getD_eq_getElem?_getD]
      exact hzero p hp)
    refine ⟨by rw [h1]; simp, h2, h3, ?_⟩
    rw [val_take b j (by omega), val_set z (i + j) _ (by omega), show i + (j + 1) = (i + j) + 1 by omega, pw_succ] at h4
    have e1 : t / 4294967296 * (pw (i + j) * 4294967296) = (4294967296 * (t / 4294967296)) * pw (i + j) := by rw [Int.mul_comm (pw (i + j)), ← Int.mul_assoc, Int.mul_comm (t / 4294967296)]
    have e2 : ai * (val (b.take j) + b.getD j 0 * pw j) * pw i = ai * val (b.take j) * pw i + ai * b.getD j 0 * pw (i + j) := by
      rw [Int.mul_add, Int.add_mul, pw_add, Int.mul_comm (pw i) (pw j), ← Int.mul_assoc ai, ← Int.mul_assoc (ai * b.getD j 0)]
    have e3 : (t % 4294967296 - z.getD (i + j) 0) * pw (i + j) + (4294967296 * (t / 4294967296)) * pw (i + j) = c * pw (i + j) + ai * b.getD j 0 * pw (i + j) := by
      rw [← Int.add_mul, ← Int.add_mul]
      congr 1
      omega
    rw [e1, e2] at h4
    omega
theorem prod_go (a b : List Int) (ha : Dig a) (hb : Dig b) : ∀ (r i : Nat) (z : List Int), i + r = a.length → Dig z → z.length = a.length + b.length → (∀ p, i + b.length ≤ p → z.getD p 0 = 0) →
    (prodF a b r i z).length = a.length + b.length ∧ Dig (prodF a b r i z) ∧ val (prodF a b r i z) + val (a.take i) * val b = val z + val a * val b := by
  intro r
  induction r with
  | zero =>
    intro i z hi hz hl hzero
    simp only [prodF]
    refine ⟨hl, hz, ?_⟩
    rw [List.take_of_length_le (by omega)]
  | succ r ih =>
    intro i z hi hz hl hzero
    simp only [prodF]
    have hai := dig_get a ha i
    obtain ⟨h1, h2, h3, h4⟩ := row_ok (a.getD i 0) hai b hb i b.length 0 z 0 (by omega) hz (by omega) (by omega) hzero
    obtain ⟨g1, g2, g3⟩ := ih (i + 1) _ (by omega) h2 (by rw [h1, hl]) (fun p hp => h3 p (by omega))
    refine ⟨g1, g2, ?_⟩
    rw [val_take a i (by omega), Int.add_mul] at g3
    simp only [List.take_zero, val, Int.mul_zero, Int.zero_mul, Int.add_zero] at h4
    have e : a.getD i 0 * pw i * val b = a.getD i 0 * val b * pw i := by rw [Int.mul_assoc, Int.mul_comm (pw i), ← Int.mul_assoc]
    omega
theorem prod_ok (a b : List Int) (ha : Dig a) (hb : Dig b) : (prod a b).length = a.length + b.length ∧ Dig (prod a b) ∧ val (prod a b) = val a * val b := by
  obtain ⟨h1, h2, h3⟩ := prod_go a b ha hb a.length 0 (List.replicate (a.length + b.length) 0) (by omega) (dig_zeros _) (by simp) (fun p hp => by
    rw [List.getD_eq_getElem?_getD]
    rcases Nat.lt_or_ge p (a.length + b.length) with h | h
    · rw [List.getElem?_replicate, if_pos h]; rfl
    · rw [List.getElem?_eq_none (by simpa using h)]; rfl)
  refine ⟨h1, h2, ?_⟩
  rw [val_zeros] at h3
  simp only [List.take_zero, val, Int.zero_mul, Int.add_zero, Int.zero_add] at h3
  exact h3
theorem u64w {n : Int} (h0 : 0 ≤ n) (h1 : n < 18446744073709551616) : IntKind.u64.wrap n = n := by
  simp only [IntKind.wrap, IntKind.bits, IntKind.signed]
  simp
  omega
theorem sq_row (a : List Int) (ha : Dig a) (hn : a.length ≤ 1000000) (i : Nat) (hi : i < a.length) (R : List Int) :
    ∀ (r j : Nat) (z : List Int) (c : Int), j + r = a.length → Dig z → 0 ≤ c ∧ c < 4294967296 → z.length = a.length + a.length →
      Ev (fun k => feature_square.l0 k a (rowF (a.getD i 0) a i r j z c) a (a.length : Int) ((i + 1 : Nat) : Int)) R →
      Ev (fun k => feature_square.l1 k a z (i : Int) (a.getD i 0) c a (a.length : Int) (i : Int) a (a.length : Int) (j : Int)) R := by
  intro r
  induction r with
  | zero =>
    intro j z c hj hz hc hl h
    refine Ev.step (fun k => ?_) h
    simp only [feature_square.l1, rowF]
    rw [if_neg (by omega), w64 (n := (i : Int) + (a.length : Int)) (by omega) (by omega), if_pos (by omega), if_pos (by omega), w64 (n := (i : Int) + 1) (by omega) (by omega), show ((i : Int) + (a.length : Int)).toNat = i + j by omega]
    rfl
  | succ r ih =>
    intro j z c hj hz hc hl h
    have hzj := dig_get z hz (i + j)
    have hai := dig_get a ha i
    have haj := dig_get a ha j
    obtain ⟨hs0, hs1⟩ := step_bound c (z.getD (i + j) 0) (a.getD i 0) (a.getD j 0) hc hzj hai haj
    have hm0 := Int.emod_nonneg (c + z.getD (i + j) 0 + a.getD i 0 * a.getD j 0) (by omega : (4294967296 : Int) ≠ 0)
    have hm1 := Int.emod_lt_of_pos (c + z.getD (i + j) 0 + a.getD i 0 * a.getD j 0) (by omega : (0 : Int) < 4294967296)
    have h2 := ih (j + 1) (z.set (i + j) ((c + z.getD (i + j) 0 + a.getD i 0 * a.getD j 0) % 4294967296)) ((c + z.getD (i + j) 0 + a.getD i 0 * a.getD j 0) / 4294967296) (by omega) (dig_set z hz _ _ hm0 hm1) ⟨Int.ediv_nonneg (by omega) (by omega), by omega⟩ (by simpa using hl) h
    refine Ev.step (fun k => ?_) h2
    simp only [feature_square.l1]
    rw [if_pos (by omega), if_pos (by omega), if_pos (by omega), w64 (n := (i : Int) + (j : Int)) (by omega) (by omega), if_pos (by omega), if_pos (by omega), w64 (n := (j : Int) + 1) (by omega) (by omega), show (i : Int) + (j : Int) = ((i + j : Nat) : Int) by omega, rd_nat, rd_nat, Int.toNat_natCast,
      u64w (n := z.getD (i + j) 0) (by omega) (by omega), u64w (n := a.getD i 0) (by omega) (by omega), u64w (n := a.getD j 0) (by omega) (by omega), u64w (n := a.getD i 0 * a.getD j 0) (by omega) (by omega), u64w (n := z.getD (i + j) 0 + a.getD i 0 * a.getD j 0) (by omega) (by omega), u64w (n := c + (z.getD (i + j) 0 + a.getD i 0 * a.getD j 0)) (by omega) (by omega), ← Int.add_assoc]
    rfl
theorem sq_go (a : List Int) (ha : Dig a) (hn : a.length ≤ 1000000) : ∀ (r i : Nat) (z : List Int), i + r = a.length → Dig z → z.length = a.length + a.length → (∀ p, i + a.length ≤ p → z.getD p 0 = 0) →
    Ev (fun k => feature_square.l0 k a z a (a.length : Int) (i : Int)) (prodF a a r i z) := by
  intro r
  induction r with
  | zero =>
    intro i z hi hz hl hzero
    refine Ev.step (f := fun _ => some z) (fun k => ?_) (Ev.now _)
    simp only [feature_square.l0]
    rw [if_neg (by omega)]
  | succ r ih =>
    intro i z hi hz hl hzero
    have hai := dig_get a ha i
    obtain ⟨h1, h2, h3, _⟩ := row_ok (a.getD i 0) hai a ha i a.length 0 z 0 (by omega) hz (by omega) (by omega) hzero
    have h4 := ih (i + 1) _ (by omega) h2 (by rw [h1, hl]) (fun p hp => h3 p (by omega))
    have h5 := sq_row a ha hn i (by omega) _ a.length 0 z 0 (by omega) hz (by omega) hl h4
    refine Ev.step (fun k => ?_) h5
    simp only [feature_square.l0]
    rw [if_pos (by omega), if_pos (by omega), if_pos (by omega), rd_nat]
    rfl
theorem square_ev (a : List Int) (ha : Dig a) (hn : a.length ≤ 1000000) : Ev (fun k => feature_square.f k a) (prod a a) := by
  refine Ev.congr (fun k => ?_) (sq_go a ha hn a.length 0 (List.replicate (a.length + a.length) 0) (by omega) (dig_zeros _) (by simp) (fun p hp => by
    rw [List.getD_eq_getElem?_getD]
    rcases Nat.lt_or_ge p (a.length + a.length) with h | h
    · rw [List.getElem?_replicate, if_pos h]; rfl
    · rw [List.getElem?_eq_none (by simpa using h)]; rfl))
  unfold feature_square.f
  rw [w64 (by omega) (by omega), if_pos (by omega), if_pos (by omega), show (2 * (a.length : Int)).toNat = a.length + a.length by omega]
  rfl
/-- 2^e ≤ n < 2^(e+1). -/
def isLg (n e : Int) : Prop := 0 ≤ e ∧ (2 : Int) ^ e.toNat ≤ n ∧ n < (2 : Int) ^ (e.toNat + 1)
theorem isLg_nonneg {n e : Int} (h : isLg n e) : 0 < n := Int.lt_of_lt_of_le (Int.pow_pos (by omega)) h.2.1
theorem pow2_mono {a b : Nat} (h : a ≤ b) : (2 : Int) ^ a ≤ 2 ^ b := by
  obtain ⟨c, rfl⟩ := Nat.exists_eq_add_of_le h
  rw [Int.pow_add]
  have h1 : (0 : Int) < 2 ^ a := Int.pow_pos (by omega)
  have h2 : (0 : Int) < 2 ^ c := Int.pow_pos (by omega)
  have : (2 : Int) ^ a * 1 ≤ 2 ^ a * 2 ^ c := Int.mul_le_mul_of_nonneg_left (by omega) (by omega)
  omega
theorem isLg_le {n m e f : Int} (h : isLg n e) (g : isLg m f) (hnm : n ≤ m) : e ≤ f := by
  by_cases hc : e ≤ f
  · exact hc
  · exfalso
    have h1 : (2 : Int) ^ (f.toNat + 1) ≤ 2 ^ e.toNat := pow2_mono (by have := h.1; have := g.1; omega)
    have := h.2.1; have := g.2.2
    omega
theorem isLg_unique {n e f : Int} (h : isLg n e) (g : isLg n f) : e = f := by
  have h1 := isLg_le h g (Int.le_refl _)
  have h2 := isLg_le g h (Int.le_refl _)
  omega
theorem bitLen_lg : ∀ (f x : Nat), 0 < x → x < 2 ^ f → 0 < Lib.bitLenAux f x ∧ 2 ^ (Lib.bitLenAux f x - 1) ≤ x ∧ x < 2 ^ (Lib.bitLenAux f x)
  | 0, x, h0, h1 => by simp at h1; omega
  | f + 1, x, h0, h1 => by
    simp only [Lib.bitLenAux]
    rw [if_neg (by omega)]
    by_cases hx : x / 2 = 0
    · have : x = 1 := by omega
      subst this
      have e : Lib.bitLenAux f (1 / 2) = 0 := by cases f <;> simp [Lib.bitLenAux]
      rw [e]
      decide
    · obtain ⟨h2, h3, h4⟩ := bitLen_lg f (x / 2) (by omega) (by rw [Nat.pow_succ] at h1; omega)
      refine ⟨by omega, ?_, ?_⟩
      · rw [show 1 + Lib.bitLenAux f (x / 2) - 1 = (Lib.bitLenAux f (x / 2) - 1) + 1 by omega, Nat.pow_succ]; omega
      · rw [show 1 + Lib.bitLenAux f (x / 2) = Lib.bitLenAux f (x / 2) + 1 by omega, Nat.pow_succ]; omega
/-- From the top digit that is not zero. -/
theorem top_lg (z : List Int) (hz : Dig z) (i : Nat) (hi : i < z.length) (hd : z.getD i 0 ≠ 0) (hzero : ∀ p, i < p → z.getD p 0 = 0) :
    isLg (val z) (32 * (i : Int) + (Lib.bitLen (z.getD i 0).toNat : Int) - 1) := by
  have hdi := dig_get z hz i
  have e1 : z = z.take (i + 1) ++ z.drop (i + 1) := (List.take_append_drop _ _).symm
  have hdz : val (z.drop (i + 1)) = 0 := by
    have : z.drop (i + 1) = List.replicate (z.length - (i + 1)) 0 := by
      apply List.ext_getElem?
      intro p
      rw [List.getElem?_drop, List.getElem?_replicate]
      by_cases hp : p < z.length - (i + 1)
      · rw [if_pos hp]
        have := hzero (i + 1 + p) (by omega)
        rw [List.getD_eq_getElem?_getD, List.getElem?_eq_getElem (by omega : i + 1 + p < z.length)] at this
        rw [List.getElem?_eq_getElem (by omega : i + 1 + p < z.length)]
        simpa using this
      · rw [if_neg hp, List.getElem?_eq_none (by omega)]
    rw [this, val_zeros]
  have e2 : val z = val (z.take i) + z.getD i 0 * pw i := by
    have : val z = val (z.take (i + 1)) + pw (z.take (i + 1)).length * val (z.drop (i + 1)) := by rw [← val_append, List.take_append_drop]
    rw [this, hdz, val_take z i hi]
    omega
  have hlow : ∀ (l : List Int), Dig l → 0 ≤ val l ∧ val l < pw l.length := by
    intro l
    induction l with
    | nil => intro _; exact ⟨Int.le_refl _, by decide⟩
    | cons d ds ih =>
      intro h
      have h1 := h d List.mem_cons_self
      have h2 := ih (fun x hx => h x (List.mem_cons_of_mem _ hx))
      simp only [val, List.length_cons, pw_succ]
      omega
  have h3 := hlow (z.take i) (fun x hx => hz x (List.mem_of_mem_take hx))
  rw [List.length_take, Nat.min_eq_left (Nat.le_of_lt hi)] at h3
  obtain ⟨b0, b1, b2⟩ := bitLen_lg 64 (z.getD i 0).toNat (by omega) (by omega)
  have hb : Lib.bitLenAux 64 (z.getD i 0).toNat = Lib.bitLen (z.getD i 0).toNat := rfl
  rw [hb] at b0 b1 b2
  have hpw : pw i = 2 ^ (32 * i) := by unfold pw; rw [Int.pow_mul]; rfl
  generalize hbl : Lib.bitLen (z.getD i 0).toNat = b at b0 b1 b2 ⊢
  have p1 : ((2 ^ (b - 1) : Nat) : Int) = (2 : Int) ^ (b - 1) := by rw [Int.natCast_pow]; rfl
  have p2 : ((2 ^ b : Nat) : Int) = (2 : Int) ^ b := by rw [Int.natCast_pow]; rfl
  have c1 : (2 : Int) ^ (b - 1) ≤ z.getD i 0 := by rw [← p1]; omega
  have c2 : z.getD i 0 + 1 ≤ (2 : Int) ^ b := by rw [← p2]; omega
  refine ⟨by omega, ?_, ?_⟩
  · rw [show (32 * (i : Int) + (b : Int) - 1).toNat = (b - 1) + 32 * i by omega, Int.pow_add, ← hpw, e2]
    have := Int.mul_le_mul_of_nonneg_right c1 (Int.le_of_lt (pw_pos i))
    omega
  · rw [show (32 * (i : Int) + (b : Int) - 1).toNat + 1 = b + 32 * i by omega, Int.pow_add, ← hpw, e2]
    have := Int.mul_le_mul_of_nonneg_right c2 (Int.le_of_lt (pw_pos i))
    rw [Int.add_mul] at this
    omega
theorem bitLen_le : ∀ (f x : Nat), Lib.bitLenAux f x ≤ f
  | 0, x => by simp [Lib.bitLenAux]
  | f + 1, x => by
    simp only [Lib.bitLenAux]
    have := bitLen_le f (x / 2)
    split <;> omega
theorem val_allzero : ∀ (z : List Int), (∀ p, z.getD p 0 = 0) → val z = 0
  | [], _ => rfl
  | d :: ds, h => by
    have h0 := h 0
    have h1 := val_allzero ds (fun p => by have := h (p + 1); simpa using this)
    simp only [List.getD_cons_zero] at h0
    simp only [val, h0, h1]
    omega
theorem top_go (z : List Int) (hz : Dig z) (hv : 0 < val z) (hl : z.length ≤ 1000) : ∀ i : Nat, i < z.length → (∀ p, i < p → z.getD p 0 = 0) → ∃ e, isLg (val z) e ∧ e ≤ 32064 ∧ Ev (fun k => feature_logarithm.l1 k z (i : Int)) e := by
  intro i
  induction i with
  | zero =>
    intro hi hzero
    by_cases hd : z.getD 0 0 = 0
    · exfalso
      have := val_allzero z (fun p => by rcases Nat.eq_zero_or_pos p with rfl | hp; exact hd; exact hzero p hp)
      omega
    · have hdz := dig_get z hz 0
      have hb : Lib.bitLen (z.getD 0 0).toNat ≤ 64 := bitLen_le 64 _
      refine ⟨_, top_lg z hz 0 hi hd hzero, by omega, ?_⟩
      refine Ev.step (f := fun _ => some (32 * ((0 : Nat) : Int) + (Lib.bitLen (z.getD 0 0).toNat : Int) - 1)) (fun k => ?_) (Ev.now _)
      simp only [feature_logarithm.l1]
      rw [if_pos (by omega), if_pos (by omega), rd_nat, if_neg hd]
      unfold bits_Len32.f
      rw [if_pos (by omega), Option.bind_some, w64 (n := 32 * ((0 : Nat) : Int)) (by omega) (by omega), w64 (n := 32 * ((0 : Nat) : Int) + _) (by omega) (by omega), w64 (by omega) (by omega)]
  | succ i ih =>
    intro hi hzero
    by_cases hd : z.getD (i + 1) 0 = 0
    · obtain ⟨e, h1, h2, h3⟩ := ih (by omega) (fun p hp => by
        by_cases hp2 : p = i + 1
        · rw [hp2]; exact hd
        · exact hzero p (by omega))
      refine ⟨e, h1, h2, Ev.step (fun k => ?_) h3⟩
      simp only [feature_logarithm.l1]
      rw [if_pos (by omega), if_pos (by omega), rd_nat, if_pos hd, w64 (by omega) (by omega), show ((i + 1 : Nat) : Int) - 1 = (i : Int) by omega]
    · have hdz := dig_get z hz (i + 1)
      have hb : Lib.bitLen (z.getD (i + 1) 0).toNat ≤ 64 := bitLen_le 64 _
      refine ⟨_, top_lg z hz (i + 1) hi hd hzero, by omega, ?_⟩
      refine Ev.step (f := fun _ => some (32 * ((i + 1 : Nat) : Int) + (Lib.bitLen (z.getD (i + 1) 0).toNat : Int) - 1)) (fun k => ?_) (Ev.now _)
      simp only [feature_logarithm.l1]
      rw [if_pos (by omega), if_pos (by omega), rd_nat, if_neg hd]
      unfold bits_Len32.f
      rw [if_pos (by omega), Option.bind_some, w64 (n := 32 * ((i + 1 : Nat) : Int)) (by omega) (by omega), w64 (n := 32 * ((i + 1 : Nat) : Int) + _) (by omega) (by omega), w64 (by omega) (by omega)]
theorem log_sq (z : List Int) (hz : Dig z) (hn : z.length ≤ 100) (m : Nat) (hm : m < 4) (r : Int) (h : Ev (fun k => feature_logarithm.l0 k (prod z z) ((m + 1 : Nat) : Int)) r) : Ev (fun k => feature_logarithm.l0 k z (m : Int)) r := by
  refine Ev.step (f := fun k => (feature_square.f k z).bind fun t104 => feature_logarithm.l0 k t104 ((m + 1 : Nat) : Int)) (fun k => ?_) (Ev.bind (square_ev z hz (by omega)) h)
  simp only [feature_logarithm.l0]
  rw [if_pos (by omega), w64 (by omega) (by omega)]
  rfl
/-- The logarithm: where n^16 stands between two powers of 2. -/
theorem logarithm_ev (a : Int) (h0 : 0 < a) (h1 : a ≤ 9223372036854775807) : ∃ e, isLg (a ^ 16) e ∧ e ≤ 32064 ∧ Ev (fun k => feature_logarithm.f k a) e := by
  have hz0 : Dig [a % 4294967296, (a / 4294967296) % 4294967296] := by
    intro x hx
    simp only [List.mem_cons, List.not_mem_nil, or_false] at hx
    omega
  have hv0 : val [a % 4294967296, (a / 4294967296) % 4294967296] = a := by
    simp only [val]
    omega
  have hl0 : [a % 4294967296, (a / 4294967296) % 4294967296].length = 2 := rfl
  generalize hz : [a % 4294967296, (a / 4294967296) % 4294967296] = z at hz0 hv0 hl0
  obtain ⟨l1, d1, v1⟩ := prod_ok z z hz0 hz0
  obtain ⟨l2, d2, v2⟩ := prod_ok (prod z z) (prod z z) d1 d1
  obtain ⟨l3, d3, v3⟩ := prod_ok (prod (prod z z) (prod z z)) (prod (prod z z) (prod z z)) d2 d2
  obtain ⟨l4, d4, v4⟩ := prod_ok (prod (prod (prod z z) (prod z z)) (prod (prod z z) (prod z z))) (prod (prod (prod z z) (prod z z)) (prod (prod z z) (prod z z))) d3 d3
  have v16 : val (prod (prod (prod (prod z z) (prod z z)) (prod (prod z z) (prod z z))) (prod (prod (prod z z) (prod z z)) (prod (prod z z) (prod z z)))) = a ^ 16 := by
    rw [v4, v3, v2, v1, hv0]
    have e2 : a * a = a ^ 2 := by rw [Int.pow_succ, Int.pow_succ, Int.pow_zero, Int.one_mul]
    rw [e2, ← Int.pow_add, ← Int.pow_add, ← Int.pow_add]
  have hpos : 0 < a ^ 16 := Int.pow_pos h0
  rw [← v16] at hpos
  obtain ⟨e, g1, g2, g3⟩ := top_go _ d4 hpos (by omega) ((prod (prod (prod (prod z z) (prod z z)) (prod (prod z z) (prod z z))) (prod (prod (prod z z) (prod z z)) (prod (prod z z) (prod z z)))).length - 1) (by omega) (fun p hp => by
    rw [List.getD_eq_getElem?_getD, List.getElem?_eq_none (by omega)]; rfl)
  rw [v16] at g1
  refine ⟨e, g1, g2, ?_⟩
  have f4 : Ev (fun k => feature_logarithm.l0 k (prod (prod (prod (prod z z) (prod z z)) (prod (prod z z) (prod z z))) (prod (prod (prod z z) (prod z z)) (prod (prod z z) (prod z z)))) ((4 : Nat) : Int)) e := by
    refine Ev.step (fun k => ?_) g3
    simp only [feature_logarithm.l0]
    rw [if_neg (by omega), w64 (by omega) (by omega)]
    congr 1
    omega
  have f0 := log_sq z hz0 (by omega) 0 (by omega) e (log_sq _ d1 (by omega) 1 (by omega) e (log_sq _ d2 (by omega) 2 (by omega) e (log_sq _ d3 (by omega) 3 (by omega) e f4)))
  refine Ev.congr (fun k => ?_) f0
  unfold feature_logarithm.f
  rw [if_neg (by omega), hz]
  rfl
theorem Log_ev (a : Int) (h0 : 0 < a) (h1 : a ≤ 9223372036854775807) : ∃ e, isLg (a ^ 16) e ∧ e ≤ 32064 ∧ Ev (fun k => feature_Log.f k a) (e, 0) := by
  obtain ⟨e, g1, g2, g3⟩ := logarithm_ev a h0 h1
  refine ⟨e, g1, g2, Ev.congr (f := fun k => (feature_logarithm.f k a).bind fun t101 => some (t101, 0)) (fun k => ?_) (Ev.bind g3 (Ev.now _))⟩
  unfold feature_Log.f
  rw [if_neg (by omega)]
end Go.Proofs.YtdlbmbijobcljaaDoor.Pure

namespace Go.Proofs.YtdlbmbijobcljaaDoor.Pure
open Go.RowKit Go.Proofs.YtdlbmbijobcljaaDoor.X Go.Proofs.YtdlbmbijobcljaaDoorW.PrintWords Go.Proofs.YtdlbmbijobcljaaDoorW.PrintLast
theorem known_ev : Ev (fun k => earshotlaw03_known.f k) true := Ev.of (k := 2000) earshotlaw03_known.mono (by decide +kernel)
end Go.Proofs.YtdlbmbijobcljaaDoor.Pure

namespace Go.Proofs.YtdlbmbijobcljaaDoor.Pure
open Go.RowKit Go.Proofs.YtdlbmbijobcljaaDoor.X Go.Proofs.YtdlbmbijobcljaaDoorW.PrintWords Go.Proofs.YtdlbmbijobcljaaDoorW.PrintLast Go.Proofs.YtdlbmbijobcljaaDoorW.PrintMore
set_option linter.unusedVariables false
set_option linter.unusedSimpArgs false
theorem pow_le_pow (a b : Int) (h0 : 0 ≤ a) (h : a ≤ b) : ∀ n : Nat, a ^ n ≤ b ^ n
  | 0 => by simp
  | n + 1 => by
    have h1 := pow_le_pow a b h0 h n
    have h2 : 0 ≤ a ^ n := Int.pow_nonneg h0
    rw [Int.pow_succ, Int.pow_succ]
    exact Int.le_trans (Int.mul_le_mul_of_nonneg_right h1 h0) (Int.mul_le_mul_of_nonneg_left h (by omega))
theorem isLg_mul {n m e f : Int} (h : isLg n e) (g : isLg m f) : isLg (n * m) (e + f) ∨ isLg (n * m) (e + f + 1) := by
  obtain ⟨h0, h1, h2⟩ := h
  obtain ⟨g0, g1, g2⟩ := g
  have pe : (0 : Int) < 2 ^ e.toNat := Int.pow_pos (by omega)
  have pf : (0 : Int) < 2 ^ f.toNat := Int.pow_pos (by omega)
  have low : (2 : Int) ^ (e + f).toNat ≤ n * m := by
    rw [show (e + f).toNat = e.toNat + f.toNat by omega, Int.pow_add]
    exact Int.le_trans (Int.mul_le_mul_of_nonneg_right h1 (by omega)) (Int.mul_le_mul_of_nonneg_left g1 (by omega))
  have high : n * m < (2 : Int) ^ ((e + f + 1).toNat + 1) := by
    rw [show (e + f + 1).toNat + 1 = (e.toNat + 1) + (f.toNat + 1) by omega, Int.pow_add]
    exact Int.lt_of_le_of_lt (Int.mul_le_mul_of_nonneg_right (Int.le_of_lt h2) (by omega)) (Int.mul_lt_mul_of_pos_left g2 (Int.pow_pos (by omega)))
  by_cases hc : n * m < (2 : Int) ^ ((e + f).toNat + 1)
  · exact .inl ⟨by omega, low, hc⟩
  · refine .inr ⟨by omega, ?_, high⟩
    rw [show (e + f + 1).toNat = (e + f).toNat + 1 by omega]
    omega
theorem isLg_twice {n e : Int} (h : isLg n e) : isLg (2 ^ 16 * n) (e + 16) := by
  obtain ⟨h0, h1, h2⟩ := h
  refine ⟨by omega, ?_, ?_⟩
  · rw [show (e + 16).toNat = 16 + e.toNat by omega, Int.pow_add]; exact Int.mul_le_mul_of_nonneg_left h1 (by decide)
  · rw [show (e + 16).toNat + 1 = 16 + (e.toNat + 1) by omega, Int.pow_add]; exact Int.mul_lt_mul_of_pos_left h2 (by decide)
theorem isLg_pow (p : Nat) : isLg ((2 ^ p) ^ 16) (16 * (p : Int)) := by
  rw [← Int.pow_mul]
  refine ⟨by omega, ?_, ?_⟩
  · rw [show (16 * (p : Int)).toNat = p * 16 by omega]; exact Int.le_refl _
  · rw [show (16 * (p : Int)).toNat + 1 = p * 16 + 1 by omega, Int.pow_succ]
    have : (0 : Int) < 2 ^ (p * 16) := Int.pow_pos (by omega)
    omega
theorem shl_pow : ∀ p : Nat, p < 63 → shl .i64 1 (p : Int) = 2 ^ p := by decide +kernel
theorem pow_small : ∀ p : Nat, p < 63 → (2 : Int) ^ p ≤ 4611686018427387904 := by decide +kernel
theorem grows_known (a b c : Int) : Ev (fun k => earshotlaw03_FeatureGrows.j0 k a b c true) true := by
  refine Ev.step (f := fun k => (earshotlaw03_known.f k).bind fun t101 => some t101) (fun k => ?_) (Ev.bind known_ev (Ev.now _))
  simp only [earshotlaw03_FeatureGrows.j0]
  rw [if_pos trivial]
theorem grows_good (a b c : Int) (ha0 : 1 ≤ a) (ha1 : a ≤ 1073741824) (hb0 : 1 ≤ b) (hb1 : b ≤ 1073741824) (hc0 : 0 ≤ c) (hc1 : c ≤ 62) : Ev (fun k => earshotlaw03_FeatureGrows.j0 k a b c false) true := by
  obtain ⟨x, x1, x2, x3⟩ := Log_ev a (by omega) (by omega)
  obtain ⟨y, y1, y2, y3⟩ := Log_ev b (by omega) (by omega)
  have hab0 : 0 < a * b := Int.mul_pos (by omega) (by omega)
  have hab1 : a * b ≤ 1073741824 * 1073741824 := Int.le_trans (Int.mul_le_mul_of_nonneg_right ha1 (by omega)) (Int.mul_le_mul_of_nonneg_left hb1 (by omega))
  obtain ⟨u, u1, u2, u3⟩ := Log_ev (a * b) hab0 (by omega)
  obtain ⟨v, v1, v2, v3⟩ := Log_ev (2 * a) (by omega) (by omega)
  obtain ⟨p, rfl⟩ : ∃ p : Nat, c = (p : Int) := ⟨c.toNat, by omega⟩
  have hp := pow_small p (by omega)
  have hpp : (0 : Int) < 2 ^ p := Int.pow_pos (by omega)
  obtain ⟨q, q1, q2, q3⟩ := Log_ev (2 ^ p) hpp (by omega)
  have e1 : v = x + 16 := isLg_unique v1 (by rw [Int.mul_pow]; exact isLg_twice x1)
  have e2 : q = 16 * (p : Int) := isLg_unique q1 (isLg_pow p)
  have e3 : u = x + y ∨ u = x + y + 1 := by
    rw [Int.mul_pow] at u1
    rcases isLg_mul x1 y1 with h | h
    · exact .inl (isLg_unique u1 h)
    · exact .inr (isLg_unique u1 h)
  have e4 : ¬ a > b → x ≤ y := fun h => isLg_le x1 y1 (pow_le_pow a b (by omega) (by omega) 16)
  have hx0 := x1.1
  have hy0 := y1.1
  have kn : Ev (fun k => (earshotlaw03_known.f k).bind fun t => some t) true := Ev.bind known_ev (Ev.now _)
  refine Ev.step (f := fun k => (feature_Log.f k a).bind fun bt102 => ((feature_Log.f k b).bind fun bt104 => ((feature_Log.f k (a * b)).bind fun bt106 => ((feature_Log.f k (2 * a)).bind fun bt108 => ((feature_Log.f k (2 ^ p)).bind fun bt110 => (if bt102.2 = 0 then (if bt104.2 = 0 then (if bt106.2 = 0 then (if bt108.2 = 0 then (if bt110.2 = 0 then (if a > b then (if bt108.1 = (wrap64 (bt102.1 + 16)) then (if bt110.1 = (wrap64 (16 * (p : Int))) then (if bt106.1 = (wrap64 (bt102.1 + bt104.1)) then ((earshotlaw03_known.f k).bind fun t112 => (some t112)) else (if bt106.1 = (wrap64 ((wrap64 (bt102.1 + bt104.1)) + 1)) then ((earshotlaw03_known.f k).bind fun t113 => (some t113)) else (some false))) else (some false)) else (some false)) else (if bt102.1 ≤ bt104.1 then (if bt108.1 = (wrap64 (bt102.1 + 16)) then (if bt110.1 = (wrap64 (16 * (p : Int))) then (if bt106.1 = (wrap64 (bt102.1 + bt104.1)) then ((earshotlaw03_known.f k).bind fun t114 => (some t114)) else (if bt106.1 = (wrap64 ((wrap64 (bt102.1 + bt104.1)) + 1)) then ((earshotlaw03_known.f k).bind fun t115 => (some t115)) else (some false))) else (some false)) else (some false)) else (some false))) else (some false)) else (some false)) else (some false)) else (some false)) else (some false)))))))
    (fun k => ?_) (Ev.bind x3 (Ev.bind y3 (Ev.bind u3 (Ev.bind v3 (Ev.bind q3 ?_)))))
  · simp only [earshotlaw03_FeatureGrows.j0]
    rw [if_neg (by simp), w64 (n := a * b) (by omega) (by omega), w64 (n := 2 * a) (by omega) (by omega), shl_pow p (by omega)]
    simp only [if_pos hc0]
  · refine Ev.congr (fun k => ?_) kn
    dsimp only
    rw [if_pos rfl, if_pos rfl, if_pos rfl, if_pos rfl, if_pos rfl, w64 (n := x + 16) (by omega) (by omega), w64 (n := 16 * (p : Int)) (by omega) (by omega), w64 (n := x + y) (by omega) (by omega), w64 (n := x + y + 1) (by omega) (by omega), if_pos e1, if_pos e2]
    have inner : (if u = x + y then ((earshotlaw03_known.f k).bind fun t => some t) else if u = x + y + 1 then ((earshotlaw03_known.f k).bind fun t => some t) else some false) = ((earshotlaw03_known.f k).bind fun t => some t) := by
      by_cases h : u = x + y
      · rw [if_pos h]
      · rw [if_neg h, if_pos (by omega)]
    rw [inner]
    by_cases hab : a > b
    · rw [if_pos hab]
    · rw [if_neg hab, if_pos (e4 hab)]
theorem grows_ev (a b c : Int) : Ev (fun k => earshotlaw03_FeatureGrows.f k a b c) true := by
  by_cases h1 : a < 1
  · exact Ev.congr (fun k => by unfold earshotlaw03_FeatureGrows.f; rw [if_pos h1]) (grows_known a b c)
  · by_cases h2 : a > 1073741824
    · exact Ev.congr (fun k => by unfold earshotlaw03_FeatureGrows.f; rw [if_neg h1, if_pos h2]) (grows_known a b c)
    · by_cases h3 : b < 1
      · exact Ev.congr (fun k => by unfold earshotlaw03_FeatureGrows.f; rw [if_neg h1, if_neg h2, if_pos h3]) (grows_known a b c)
      · by_cases h4 : b > 1073741824
        · exact Ev.congr (fun k => by unfold earshotlaw03_FeatureGrows.f; rw [if_neg h1, if_neg h2, if_neg h3, if_pos h4]) (grows_known a b c)
        · by_cases h5 : c < 0
          · exact Ev.congr (fun k => by unfold earshotlaw03_FeatureGrows.f; rw [if_neg h1, if_neg h2, if_neg h3, if_neg h4, if_pos h5]) (grows_known a b c)
          · by_cases h6 : c > 62
            · exact Ev.congr (fun k => by unfold earshotlaw03_FeatureGrows.f; rw [if_neg h1, if_neg h2, if_neg h3, if_neg h4, if_neg h5, decide_eq_true h6]) (grows_known a b c)
            · exact Ev.congr (fun k => by unfold earshotlaw03_FeatureGrows.f; rw [if_neg h1, if_neg h2, if_neg h3, if_neg h4, if_neg h5, decide_eq_false h6]) (grows_good a b c (by omega) (by omega) (by omega) (by omega) (by omega) (by omega))
theorem FeatureGrows : earshotlaw03_FeatureGrows.Pure := fun a b c _ _ _ => (grows_ev a b c).rounds
end Go.Proofs.YtdlbmbijobcljaaDoor.Pure

namespace Go.Proofs.YtdlbmbijobcljaaDoor.featureGrows
open Go.ChangeShapes Go.WideShapes Go.ChangeAt Go.RowKit
open Go.ChangeMaps (open_string shut_string)
set_option linter.unusedVariables false
theorem own : ownKnob Tryd.prog.godebug = none := by kernel_rfl
set_option maxRecDepth 100000 in
theorem lifted (os : Os) (started : os.Started) (H : Type) (enc : TypeId × Value → H) :
    ReturnsInHanded {} Tryd.checked os 7 .any (fun w args => (Rows.featureGrowsSpec.pre enc Tryd.prog Tryd.f7 Rows.featureGrowsRow.domain false w args ∧ laidMetH Tryd.prog laidC w) ∧ sizedMet enc Tryd.prog Tryd.f7 (OpenSpec.ofChange Rows.featureGrowsSpec) false w args) (Rows.featureGrowsSpec.post enc Tryd.prog Tryd.f7 false true false false) := by
  refine returnsInHanded_of_change_and (C := Tryd.checked) (X := fun w _ => laidMetH Tryd.prog laidC w) (fun _ _ _ hh h => h.of_heap hh) own started (by kernel_rfl) Tryd.func7
    (ChangeSpec.witness_shaped (enc := enc) (C := Tryd.checked) (os := os) (X := fun w _ => laidMetH Tryd.prog laidC w) false (World.doorLaid Tryd.prog 4000 os) #[.int .i64 0, .int .i64 0, .int .i64 0] 8 rfl (World.shaped_of_RefB (by kernel_rfl) (by kernel_rfl)) (by kernel_rfl) (by kernel_rfl) (by kernel_rfl) (door_met os _)) ?_
  intro W base args ds gs before hval0 hW hcnd hsz0 hL _
  have ht := tab_of_laid hL
  have hsz : (DataW.weightsEach Tryd.prog (Tryd.f7.params.toList ++ Rows.featureGrowsSpec.plain.varTypes Tryd.prog) (ds ++ gs)).all (· ≤ reachBytes) = true := hsz0
  have hval : ∀ (j : Nat) t v, Tryd.f7.params[j]? = some t → args[j]? = some v → Value.okWide Tryd.prog W .any base t v := hval0
  have hW' := hW
  obtain ⟨p, q, hA0, hV, rfl, hfz, hnd⟩ := hW
  have hA : DataW.TrodAll enc Tryd.prog W 0 (fun _ => true) true Tryd.f7.params.toList args.toList ds p := hA0
  rw [Tryd.params7] at hA hval hsz
  obtain ⟨v0, vs0, d0, ds0, p0, q0, hargs, rfl, rfl, h0, r0⟩ := trodAll_cons hA
  obtain ⟨v1, vs1, d1, ds1, p1, q1, rfl, rfl, rfl, h1, r1⟩ := trodAll_cons r0
  obtain ⟨v2, vs2, d2, ds2, p2, q2, rfl, rfl, rfl, h2, r2⟩ := trodAll_cons r1
  obtain ⟨rfl, rfl, rfl⟩ := trodAll_nil r2
  obtain rfl : args = #[v0, v1, v2] := by cases args; simp_all
  obtain ⟨rfl, rfl⟩ := trodVars_none hV
  obtain ⟨a0, rfl, rfl, rfl, w0⟩ := open_int Tryd.underlying3 (hval 0 3 v0 rfl rfl) h0
  obtain ⟨a1, rfl, rfl, rfl, w1⟩ := open_int Tryd.underlying3 (hval 1 3 v1 rfl rfl) h1
  obtain ⟨a2, rfl, rfl, rfl, w2⟩ := open_int Tryd.underlying3 (hval 2 3 v2 rfl rfl) h2
  clear hA0 hval0 hsz0 hsz
  refine (X.earshotlaw03_FeatureGrows.walk Pure.FeatureGrows a0 a1 a2 W ht w0 w1 w2).mono fun e W' ⟨he, bel⟩ => ?_
  subst he
  exact ⟨_, rfl, _, _, _, [], _, [], hW', trodAll_mk1 (shut_bool Tryd.underlying4 _), (trodAll_cons_mk (shut_int Tryd.underlying3 w0) (trodAll_cons_mk (shut_int Tryd.underlying3 w1) (trodAll_cons_mk (shut_int Tryd.underlying3 w2) trodAll_mk0))), rfl, bel.frame _, fun h => by cases h⟩
theorem closed : joinedFacts Tryd.prog 7 Tryd.f7 Rows.featureGrowsSpec Rows.featureGrowsRow = true :=
  joined_of rfl rfl rfl (by kernel_rfl) (by kernel_rfl) (by kernel_rfl) (by kernel_rfl) (by kernel_rfl) (by kernel_rfl) (by kernel_rfl) (by kernel_rfl) (by kernel_rfl) (by kernel_rfl) (by kernel_rfl) (by kernel_rfl) (by kernel_rfl) (by kernel_rfl) (by kernel_rfl) (by kernel_rfl) (by kernel_rfl) (by kernel_rfl) (by kernel_rfl) (by kernel_rfl) (by kernel_rfl) (by kernel_rfl) (by kernel_rfl)
theorem over : Rows.featureGrowsRow.holds Tryd.pinned (OpenSpec.ofChange Rows.featureGrowsSpec) :=
  OpenClaim.holds_of_wide 7 Tryd.f7 rfl rfl rfl rfl rfl rfl rfl ⟨rfl, rfl, rfl, rfl, rfl⟩ rfl rfl rfl rfl rfl (by kernel_rfl) Tryd.func7 closed
    (of_decide_eq_true (by kernel_rfl)) (by unfold Func.isWrapper; first | (rw [if_pos (by decide +kernel)]; kernel_rfl) | (rw [if_neg (by decide +kernel)]; exact ⟨rfl, rfl⟩))
    (fun os started H enc _ => lifted os started H enc)
theorem proved : Rows.FeatureGrowsSaid := over
end Go.Proofs.YtdlbmbijobcljaaDoor.featureGrows
namespace Go.Proofs.YtdlbmbijobcljaaDoor
/-- The row, under a short name, for the claim. -/
theorem featureGrows_holds : Rows.FeatureGrowsSaid := featureGrows.proved
/-- THE TIED CARD. -/
theorem featureGrows_card : Rows.FeatureGrowsCardSaid :=
  Claim7.holds_tied_plain_at .later [] [.data] true (true, "113a42d89db8992b3819bea1327673c10f2f9c06b5576fb37f9626d51ac793bb") false
    featureGrows_holds (fun _ h => by cases h) (by kernel_rfl) (fun _ h => by cases h) featureGrows_row_tie rfl ⟨rfl, rfl⟩ jMain rfl
    (fun f fn hf hfn => by
      obtain rfl : f = 7 := Option.some.inj ((show Tryd.prog.funcNamed "earshot/earshotlaw03.FeatureGrows" = some 7 by kernel_rfl).symm.trans hf) |>.symm
      obtain rfl : fn = Tryd.f7 := (Option.some.inj (Tryd.func7.symm.trans hfn)).symm
      exact ⟨by kernel_rfl, fun j t ht => by
        rw [Tryd.params7] at ht
        have hm : t ∈ [3, 3, 3] := by simpa using Array.mem_of_getElem? ht
        have hall : ([3, 3, 3].all fun u => !Tryd.prog.wantsStandIn u) = true := by kernel_rfl
        exact (show Tryd.prog.wantsStandIn t = false by simpa using List.all_eq_true.1 hall t hm)⟩)
    (by kernel_rfl)
end Go.Proofs.YtdlbmbijobcljaaDoor
