/- FeatureTable: for every input whatever the law returns true, and each argument reads behind the call as it read before. Conditions: those of the row: the listed variable earshot/api.Cosines reads as laid, which the card ties to the program's text. By a program of this session's own (wip/print/gen_row.py), after the kit's print. -/
import Derived.Test.YtdlbmbijobcljaaDoorMA
import Derived.Test.YtdlbmbijobcljaaDoorMK
import Derived.Test.YtdlbmbijobcljaaDoorMC
import Derived.Test.YtdlbmbijobcljaaDoorRows
import Derived.Test.YtdlbmbijobcljaaDoorCards
import Derived.Test.YtdlbmbijobcljaaDoorMJ
import Derived.Test.YtdlbmbijobcljaaDoorHJoinedE
import Derived.Test.YtdlbmbijobcljaaDoorTie
import Derived.LaidMore
import Derived.Stop.Joined
import Derived.SevenTiedAt
import Derived.WalkKit
import Derived.ProofKit
import Derived.OpenShut
import Derived.ShutString
import Derived.ChangeOld
import Derived.Below
import Derived.SizedLaws
namespace Go.Proofs.YtdlbmbijobcljaaDoor.X
open Go.RowKit Go.Proofs.YtdlbmbijobcljaaDoorW.PrintWords Go.Proofs.YtdlbmbijobcljaaDoorW.PrintLast Go.Proofs.YtdlbmbijobcljaaDoorW.PrintMore
attribute [local go_sem] max2_int min2_int max_two min_two max_three min_three max_four min_four   -- for this text's walks alone
set_option linter.unusedVariables false
set_option linter.unusedSimpArgs false
/-! ### feature_Cosine: function 47 -/
def feature_Cosine.f (a0 : Int) : Option (Int × Int) := if a0 < 0 then (some (0, 2)) else ((feature_cosine.f a0).bind fun t101 => (some (t101, 0)))
set_option maxHeartbeats 8000000 in
set_option maxRecDepth 100000 in
theorem feature_Cosine.calls (a0 : Int) (r1 : Int) (r2 : Int) (w : World) (ht : Kd.C (Kd.int .i64) w (some ⟨0, 0, none⟩) 65 tabL) (h : feature_Cosine.f a0 = some (r1, r2)) :
  Calls Tryd.prog 47 #[.int .i64 a0] w fun e w' => e = .returned (.tuple #[.int .i64 r1, .int .i64 r2]) ∧ Drawn0 w w' := by
 have HRT := Aside0.mk ht
 clear ht
 have H : (if a0 < 0 then (some (0, 2)) else ((feature_cosine.f a0).bind fun t101 => (some (t101, 0)))) = some (r1, r2) := h
 clear h
 by_cases c2 : a0 < 0
 ·rw [if_pos c2] at H
  have c2b0 : decide (a0 < 0) = true := decide_eq_true c2
  clear c2
  simp only [Option.some.injEq, Prod.mk.injEq] at H
  obtain ⟨rfl, rfl⟩ := H
  go_enter Tryd.func47, Tryd.ntmps47
  go_wp2
  go_ret2
  exact ⟨by first | rfl | (simp; done) | (simp [*]; done), by repeat (first | exact Drawn0.refl _ | apply Drawn0.step)⟩
 ·rw [if_neg c2] at H
  have c2b0 : decide (a0 < 0) = false := decide_eq_false c2
  clear c2
  replace H := Option.bind_eq_some_iff.mp H
  obtain ⟨t101, A30, H⟩ := H
  replace H : (some (t101, 0)) = some (r1, r2) := H
  have A3 := Aside0.mk A30
  clear A30
  simp only [Option.some.injEq, Prod.mk.injEq] at H
  obtain ⟨rfl, rfl⟩ := H
  go_enter Tryd.func47, Tryd.ntmps47
  go_wp2_with (first | ((with_reducible refine gate_callee (f := 81) rfl ?_); refine goesL_ (some 7) rfl rfl Tryd.func81 (by kernel_rfl) rfl #[.int .i64 a0] rfl (by (try simp only [List.map_toArray, List.map_cons, List.map_nil]); first | done | rfl | (simp only [List.length_drop, List.length_take]; rfl)) ?_; (with_reducible refine (feature_cosine.calls a0 t101 _ ?side1 A3.out).mono ?_); (case side1 => repeat (first | exact HRT.out | (with_reducible refine Kd.C_alloc ?_ _) | (with_reducible refine Kd.C_drewN ?_ _) | (with_reducible refine Kd.C_drew ?_))); rintro e w' ⟨rfl, ⟨nd, rfl⟩⟩; refine ⟨_, rfl, ?_⟩))
  go_ret2
  exact ⟨by first | rfl | (simp; done) | (simp [*]; done), by repeat (first | exact Drawn0.refl _ | apply Drawn0.step)⟩

/-! ### earshotlaw03_root: function 111 -/
def earshotlaw03_root.l0 : Nat → Int → Int → Int → Option (Int)
 | 0, _, _, _ => none
 | k + 1, x0, x3, x4 => if (wrap64 (x4 - x3)) > 1 then (if (wrap64 ((wrap64 (Int.tdiv (wrap64 (x3 + x4)) 2)) * (wrap64 (Int.tdiv (wrap64 (x3 + x4)) 2)))) ≤ x0 then (earshotlaw03_root.l0 k x0 (wrap64 (Int.tdiv (wrap64 (x3 + x4)) 2)) x4) else (earshotlaw03_root.l0 k x0 x3 (wrap64 (Int.tdiv (wrap64 (x3 + x4)) 2)))) else (some x3)
def earshotlaw03_root.f (k : Nat) (a0 : Int) : Option (Int) := earshotlaw03_root.l0 k a0 0 2147483648
theorem earshotlaw03_root.mono_l : ∀ k, (∀ y0 y1 y2, LeO (earshotlaw03_root.l0 k y0 y1 y2) (earshotlaw03_root.l0 (k + 1) y0 y1 y2))
 | 0 => fun _ _ _ r h => by simp [earshotlaw03_root.l0] at h
 | k + 1 => by
  have ih0 := earshotlaw03_root.mono_l k
  ·intro y0 y1 y2
   unfold earshotlaw03_root.l0
   repeat' first
   | (with_reducible exact ih0 _ _ _)
   | (with_reducible exact LeO.refl _)
   | (with_reducible exact LeO.none _)
   | (with_reducible refine LeO.ite ?_ ?_)
   | (with_reducible refine LeO.bind ?_ (fun _ => ?_))
   | exact ih0 _ _ _
   | exact LeO.none _
   | refine LeO.ite ?_ ?_
   | refine LeO.bind ?_ (fun _ => ?_)
theorem earshotlaw03_root.mono : ∀ a0 k, LeO (earshotlaw03_root.f k a0) (earshotlaw03_root.f (k + 1) a0) := by
 intro a0 k
 have ih0 := earshotlaw03_root.mono_l k
 unfold earshotlaw03_root.f
 repeat' first
   | (with_reducible exact ih0 _ _ _)
   | (with_reducible exact LeO.refl _)
   | (with_reducible exact LeO.none _)
   | (with_reducible refine LeO.ite ?_ ?_)
   | (with_reducible refine LeO.bind ?_ (fun _ => ?_))
   | exact ih0 _ _ _
   | exact LeO.none _
   | refine LeO.ite ?_ ?_
   | refine LeO.bind ?_ (fun _ => ?_)
set_option maxHeartbeats 8000000 in
set_option maxRecDepth 100000 in
theorem earshotlaw03_root.calls (k : Nat) (a0 : Int) (r : Int) (w : World) (h : earshotlaw03_root.f k a0 = some r) :
  Calls Tryd.prog 111 #[.int .i64 a0] w fun e w' => e = .returned (.int .i64 r) ∧ Drawn0 w w' := by
 have H : (earshotlaw03_root.l0 k a0 0 2147483648) = some r := h
 clear h
 have H' := Aside0.mk H
 clear H
 go_enter Tryd.func111, Tryd.ntmps111
 go_wp2
 go_loopg [3, 4] k (fun kq v3 v4 w' => ∃ (x3_1 : Int) (x4_1 : Int), v3 = .int .i64 x3_1 ∧ v4 = .int .i64 x4_1 ∧ Aside0 (earshotlaw03_root.l0 kq a0 x3_1 x4_1 = some r) ∧ Aside0 (kq ≤ k) ∧ Drawn0 w w')
 case atStart => exact ⟨(0), (2147483648), (by first | rfl | (simp; done) | (simp only [i64_w]; done) | (simp [*]; done)), (by first | rfl | (simp; done) | (simp only [i64_w]; done) | (simp [*]; done)), H', ⟨Nat.le_refl _⟩, by repeat (first | exact Drawn0.refl _ | apply Drawn0.step)⟩
 case round =>
  clear H'
  try clear c1
  obtain ⟨x3_1, x4_1, rfl, rfl, HA, HK1, ⟨m1, rfl⟩⟩ := hrel
  cases gk with
  | zero => exact absurd HA.out (by simp [earshotlaw03_root.l0])
  | succ k1 =>
   have H := HA.out
   clear HA
   simp only [earshotlaw03_root.l0] at H
   by_cases c2 : (wrap64 (x4_1 - x3_1)) > 1
   ·rw [if_pos c2] at H
    have c2b0 : decide (1 < (wrap64 (x4_1 - x3_1))) = true := decide_eq_true c2
    clear c2
    by_cases c3 : (wrap64 ((wrap64 (Int.tdiv (wrap64 (x3_1 + x4_1)) 2)) * (wrap64 (Int.tdiv (wrap64 (x3_1 + x4_1)) 2)))) ≤ a0
    ·rw [if_pos c3] at H
     have c3b0 : decide ((wrap64 ((wrap64 (Int.tdiv (wrap64 (x3_1 + x4_1)) 2)) * (wrap64 (Int.tdiv (wrap64 (x3_1 + x4_1)) 2)))) ≤ a0) = true := decide_eq_true c3
     clear c3
     have H' := Aside0.mk H
     clear H
     go_wp2
     go_roundg k1
     case measure => have := HK1.out; omega
     case rel => exact ⟨(wrap64 (Int.tdiv (wrap64 (x3_1 + x4_1)) 2)), (x4_1), (by first | rfl | (simp; done) | (simp only [i64_w]; done) | (simp [*]; done)), (by first | rfl | (simp; done) | (simp only [i64_w]; done) | (simp [*]; done)), H', ⟨by have := HK1.out; omega⟩, by repeat (first | exact Drawn0.refl _ | apply Drawn0.step)⟩
    ·rw [if_neg c3] at H
     have c3b0 : decide ((wrap64 ((wrap64 (Int.tdiv (wrap64 (x3_1 + x4_1)) 2)) * (wrap64 (Int.tdiv (wrap64 (x3_1 + x4_1)) 2)))) ≤ a0) = false := decide_eq_false c3
     clear c3
     have H' := Aside0.mk H
     clear H
     go_wp2
     go_roundg k1
     case measure => have := HK1.out; omega
     case rel => exact ⟨(x3_1), (wrap64 (Int.tdiv (wrap64 (x3_1 + x4_1)) 2)), (by first | rfl | (simp; done) | (simp only [i64_w]; done) | (simp [*]; done)), (by first | rfl | (simp; done) | (simp only [i64_w]; done) | (simp [*]; done)), H', ⟨by have := HK1.out; omega⟩, by repeat (first | exact Drawn0.refl _ | apply Drawn0.step)⟩
   ·rw [if_neg c2] at H
    have c2b0 : decide (1 < (wrap64 (x4_1 - x3_1))) = false := decide_eq_false c2
    clear c2
    obtain rfl := Option.some.inj H
    go_wp2
    go_ret
    exact ⟨by first | rfl | (simp; done) | (simp [*]; done), by repeat (first | exact Drawn0.refl _ | apply Drawn0.step)⟩

/-! ### earshotlaw03_cosine: function 49 -/
mutual
def earshotlaw03_cosine.j0 : Nat → Int → Option (Int × Int)
 | 0, _ => none
 | k + 1, x0 => if x0 > 64 then ((earshotlaw03_cosine.f k (wrap64 (128 - x0))).bind fun bt101 => (some (wrap64 (-bt101.2), wrap64 (-bt101.1)))) else (if x0 = 0 then (some (1073741824, 1073741824)) else (if x0 = 64 then (some (0, 0)) else (if x0 > 32 then ((earshotlaw03_cosine.f k (wrap64 (64 - x0))).bind fun bt103 => ((earshotlaw03_root.f k (wrap64 (1152921504606846976 - (wrap64 (bt103.2 * bt103.2))))).bind fun t105 => ((earshotlaw03_root.f k (wrap64 (1152921504606846976 - (wrap64 (bt103.1 * bt103.1))))).bind fun t106 => (some (t105, wrap64 (t106 + 1)))))) else ((earshotlaw03_cosine.f k (wrap64 (2 * x0))).bind fun bt107 => ((earshotlaw03_root.f k (wrap64 ((wrap64 (1073741824 + bt107.1)) * 536870912))).bind fun t109 => ((earshotlaw03_root.f k (wrap64 ((wrap64 (1073741824 + bt107.2)) * 536870912))).bind fun t110 => (some (t109, wrap64 (t110 + 1)))))))))
def earshotlaw03_cosine.f : Nat → Int → Option (Int × Int)
 | 0, _ => none
 | k + 1, a0 => if a0 > 128 then (earshotlaw03_cosine.j0 k (wrap64 (256 - a0))) else (earshotlaw03_cosine.j0 k a0)
end
theorem earshotlaw03_cosine.mono_l : ∀ k, (∀ y0, LeO (earshotlaw03_cosine.f k y0) (earshotlaw03_cosine.f (k + 1) y0)) ∧ (∀ y0, LeO (earshotlaw03_cosine.j0 k y0) (earshotlaw03_cosine.j0 (k + 1) y0))
 | 0 => ⟨fun _ r h => by simp [earshotlaw03_cosine.f] at h, fun _ r h => by simp [earshotlaw03_cosine.j0] at h⟩
 | k + 1 => by
  obtain ⟨ih0, ih1⟩ := earshotlaw03_cosine.mono_l k
  refine ⟨?_, ?_⟩
  ·intro y0
   unfold earshotlaw03_cosine.f
   repeat' first
   | (with_reducible exact ih0 _)
   | (with_reducible exact ih1 _)
   | (with_reducible exact earshotlaw03_root.mono _ _)
   | (with_reducible exact LeO.refl _)
   | (with_reducible exact LeO.none _)
   | (with_reducible refine LeO.ite ?_ ?_)
   | (with_reducible refine LeO.bind ?_ (fun _ => ?_))
   | exact ih0 _
   | exact ih1 _
   | exact earshotlaw03_root.mono _ _
   | exact LeO.none _
   | refine LeO.ite ?_ ?_
   | refine LeO.bind ?_ (fun _ => ?_)
  ·intro y0
   unfold earshotlaw03_cosine.j0
   repeat' first
   | (with_reducible exact ih0 _)
   | (with_reducible exact ih1 _)
   | (with_reducible exact earshotlaw03_root.mono _ _)
   | (with_reducible exact LeO.refl _)
   | (with_reducible exact LeO.none _)
   | (with_reducible refine LeO.ite ?_ ?_)
   | (with_reducible refine LeO.bind ?_ (fun _ => ?_))
   | exact ih0 _
   | exact ih1 _
   | exact earshotlaw03_root.mono _ _
   | exact LeO.none _
   | refine LeO.ite ?_ ?_
   | refine LeO.bind ?_ (fun _ => ?_)
theorem earshotlaw03_cosine.mono : ∀ a0 k, LeO (earshotlaw03_cosine.f k a0) (earshotlaw03_cosine.f (k + 1) a0) := by
 intro a0 k
 obtain ⟨ih0, ih1⟩ := earshotlaw03_cosine.mono_l k
 exact ih0 a0
set_option maxHeartbeats 8000000 in
set_option maxRecDepth 100000 in
theorem earshotlaw03_cosine.calls (k : Nat) : ∀ (a0 : Int) (r1 : Int) (r2 : Int) (w : World) (h : earshotlaw03_cosine.f k a0 = some (r1, r2)),
  Calls Tryd.prog 49 #[.int .i64 a0] w fun e w' => e = .returned (.tuple #[.int .i64 r1, .int .i64 r2]) ∧ Drawn0 w w' := by
 induction k using Nat.strongRecOn with
 | _ k ih =>
 intro a0 r1 r2 w h
 cases k with
 | zero => exact absurd h (by simp [earshotlaw03_cosine.f])
 | succ k =>
 simp only [earshotlaw03_cosine.f] at h
 have H : (if a0 > 128 then (earshotlaw03_cosine.j0 k (wrap64 (256 - a0))) else (earshotlaw03_cosine.j0 k a0)) = some (r1, r2) := h
 clear h
 have HC2 := Aside0.mk H
 clear H
 go_enter Tryd.func49, Tryd.ntmps49
 go_upto_if 11 with (fail)
 go_cut [0] (fun v0 wc => ∃ (kq : Nat) (x0_1 : Int), v0 = .int .i64 x0_1 ∧ Aside0 (earshotlaw03_cosine.j0 kq x0_1 = some (r1, r2)) ∧ Aside0 (kq ≤ k) ∧ Drawn0 w wc)
 case first =>
  have H := HC2.out
  clear HC2
  by_cases c3 : a0 > 128
  ·rw [if_pos c3] at H
   have c3b0 : decide (128 < a0) = true := decide_eq_true c3
   clear c3
   (first | rw [c3b0] | (simp only [i64_w, i32_w]; rw [c3b0]) | skip)
   have H' := Aside0.mk H
   clear H
   go_wp2
   go_meet
   case rel => exact ⟨_, (wrap64 (256 - a0)), (by first | rfl | (simp; done) | (simp only [i64_w]; done) | (simp [*]; done)), H', ⟨by first | omega | exact Nat.le_refl _⟩, by repeat (first | exact Drawn0.refl _ | apply Drawn0.step)⟩
  ·rw [if_neg c3] at H
   have c3b0 : decide (128 < a0) = false := decide_eq_false c3
   clear c3
   (first | rw [c3b0] | (simp only [i64_w, i32_w]; rw [c3b0]) | skip)
   have H' := Aside0.mk H
   clear H
   go_wp2
   go_meet
   case rel => exact ⟨_, (a0), (by first | rfl | (simp; done) | (simp only [i64_w]; done) | (simp [*]; done)), H', ⟨by first | omega | exact Nat.le_refl _⟩, by repeat (first | exact Drawn0.refl _ | apply Drawn0.step)⟩
 case rest =>
  clear HC2
  try clear p2
  try clear c3
  try clear c3b0
  obtain ⟨kq, x0_1, rfl, HA, HJ1, ⟨mc1, rfl⟩⟩ := hcut
  cases kq with
  | zero => exact absurd HA.out (by simp [earshotlaw03_cosine.j0])
  | succ kj1 =>
   have H := HA.out
   clear HA
   simp only [earshotlaw03_cosine.j0] at H
   by_cases c4 : x0_1 > 64
   ·rw [if_pos c4] at H
    have c4b0 : decide (64 < x0_1) = true := decide_eq_true c4
    clear c4
    replace H := Option.bind_eq_some_iff.mp H
    obtain ⟨⟨t101, t102⟩, A50, H⟩ := H
    replace H : (some (wrap64 (-t102), wrap64 (-t101))) = some (r1, r2) := H
    have A5 := Aside0.mk A50
    clear A50
    simp only [Option.some.injEq, Prod.mk.injEq] at H
    obtain ⟨rfl, rfl⟩ := H
    go_wp2_with (first | ((with_reducible refine gate_callee (f := 49) rfl ?_); refine goesL_ (some 19) rfl rfl Tryd.func49 (by kernel_rfl) rfl #[.int .i64 (wrap64 (128 - x0_1))] rfl (by (try simp only [List.map_toArray, List.map_cons, List.map_nil]); first | done | rfl | (simp only [List.length_drop, List.length_take]; rfl)) ?_; (with_reducible refine (ih kj1 (by have := HJ1.out; omega) (wrap64 (128 - x0_1)) t101 t102 _ A5.out).mono ?_); rintro e w' ⟨rfl, ⟨nd, rfl⟩⟩; refine ⟨_, rfl, ?_⟩))
    go_ret2
    exact ⟨by first | rfl | (simp; done) | (simp [*]; done), by repeat (first | exact Drawn0.refl _ | apply Drawn0.step)⟩
   ·rw [if_neg c4] at H
    have c4b0 : decide (64 < x0_1) = false := decide_eq_false c4
    clear c4
    by_cases c6 : x0_1 = 0
    ·rw [if_pos c6] at H
     have c6b0 : (x0_1 == 0) = true := beq_iff_eq.mpr c6
     have c6b1 : (x0_1 != 0) = false := bne_eq_false_iff_eq.mpr c6
     clear c6
     simp only [Option.some.injEq, Prod.mk.injEq] at H
     obtain ⟨rfl, rfl⟩ := H
     go_wp2
     go_ret2
     exact ⟨by first | rfl | (simp; done) | (simp [*]; done), by repeat (first | exact Drawn0.refl _ | apply Drawn0.step)⟩
    ·rw [if_neg c6] at H
     have c6b0 : (x0_1 == 0) = false := beq_eq_false_iff_ne.mpr c6
     have c6b1 : (x0_1 != 0) = true := bne_iff_ne.mpr c6
     by_cases c7 : x0_1 = 64
     ·rw [if_pos c7] at H
      have c7b0 : (x0_1 == 64) = true := beq_iff_eq.mpr c7
      have c7b1 : (x0_1 != 64) = false := bne_eq_false_iff_eq.mpr c7
      clear c7
      simp only [Option.some.injEq, Prod.mk.injEq] at H
      obtain ⟨rfl, rfl⟩ := H
      go_wp2
      go_ret2
      exact ⟨by first | rfl | (simp; done) | (simp [*]; done), by repeat (first | exact Drawn0.refl _ | apply Drawn0.step)⟩
     ·rw [if_neg c7] at H
      have c7b0 : (x0_1 == 64) = false := beq_eq_false_iff_ne.mpr c7
      have c7b1 : (x0_1 != 64) = true := bne_iff_ne.mpr c7
      by_cases c8 : x0_1 > 32
      ·rw [if_pos c8] at H
       have c8b0 : decide (32 < x0_1) = true := decide_eq_true c8
       clear c8
       replace H := Option.bind_eq_some_iff.mp H
       obtain ⟨⟨t103, t104⟩, A90, H⟩ := H
       replace H : ((earshotlaw03_root.f kj1 (wrap64 (1152921504606846976 - (wrap64 (t104 * t104))))).bind fun t105 => ((earshotlaw03_root.f kj1 (wrap64 (1152921504606846976 - (wrap64 (t103 * t103))))).bind fun t106 => (some (t105, wrap64 (t106 + 1))))) = some (r1, r2) := H
       have A9 := Aside0.mk A90
       clear A90
       replace H := Option.bind_eq_some_iff.mp H
       obtain ⟨t105, A100, H⟩ := H
       replace H : ((earshotlaw03_root.f kj1 (wrap64 (1152921504606846976 - (wrap64 (t103 * t103))))).bind fun t106 => (some (t105, wrap64 (t106 + 1)))) = some (r1, r2) := H
       have A10 := Aside0.mk A100
       clear A100
       replace H := Option.bind_eq_some_iff.mp H
       obtain ⟨t106, A110, H⟩ := H
       replace H : (some (t105, wrap64 (t106 + 1))) = some (r1, r2) := H
       have A11 := Aside0.mk A110
       clear A110
       simp only [Option.some.injEq, Prod.mk.injEq] at H
       obtain ⟨rfl, rfl⟩ := H
       go_wp2_with (first | ((with_reducible refine gate_callee (f := 49) rfl ?_); refine goesL_ (some 35) rfl rfl Tryd.func49 (by kernel_rfl) rfl #[.int .i64 (wrap64 (64 - x0_1))] rfl (by (try simp only [List.map_toArray, List.map_cons, List.map_nil]); first | done | rfl | (simp only [List.length_drop, List.length_take]; rfl)) ?_; (with_reducible refine (ih kj1 (by have := HJ1.out; omega) (wrap64 (64 - x0_1)) t103 t104 _ A9.out).mono ?_); rintro e w' ⟨rfl, ⟨nd, rfl⟩⟩; refine ⟨_, rfl, ?_⟩) | ((with_reducible refine gate_callee (f := 111) rfl ?_); refine goesL_ (some 42) rfl rfl Tryd.func111 (by kernel_rfl) rfl #[.int .i64 (wrap64 (1152921504606846976 - (wrap64 (t104 * t104))))] rfl (by (try simp only [List.map_toArray, List.map_cons, List.map_nil]); first | done | rfl | (simp only [List.length_drop, List.length_take]; rfl)) ?_; (with_reducible refine (earshotlaw03_root.calls kj1 (wrap64 (1152921504606846976 - (wrap64 (t104 * t104)))) t105 _ A10.out).mono ?_); rintro e w' ⟨rfl, ⟨nd, rfl⟩⟩; refine ⟨_, rfl, ?_⟩) | ((with_reducible refine gate_callee (f := 111) rfl ?_); refine goesL_ (some 47) rfl rfl Tryd.func111 (by kernel_rfl) rfl #[.int .i64 (wrap64 (1152921504606846976 - (wrap64 (t103 * t103))))] rfl (by (try simp only [List.map_toArray, List.map_cons, List.map_nil]); first | done | rfl | (simp only [List.length_drop, List.length_take]; rfl)) ?_; (with_reducible refine (earshotlaw03_root.calls kj1 (wrap64 (1152921504606846976 - (wrap64 (t103 * t103)))) t106 _ A11.out).mono ?_); rintro e w' ⟨rfl, ⟨nd, rfl⟩⟩; refine ⟨_, rfl, ?_⟩))
       go_ret2
       exact ⟨by first | rfl | (simp; done) | (simp [*]; done), by repeat (first | exact Drawn0.refl _ | apply Drawn0.step)⟩
      ·rw [if_neg c8] at H
       have c8b0 : decide (32 < x0_1) = false := decide_eq_false c8
       clear c8
       replace H := Option.bind_eq_some_iff.mp H
       obtain ⟨⟨t107, t108⟩, A120, H⟩ := H
       replace H : ((earshotlaw03_root.f kj1 (wrap64 ((wrap64 (1073741824 + t107)) * 536870912))).bind fun t109 => ((earshotlaw03_root.f kj1 (wrap64 ((wrap64 (1073741824 + t108)) * 536870912))).bind fun t110 => (some (t109, wrap64 (t110 + 1))))) = some (r1, r2) := H
       have A12 := Aside0.mk A120
       clear A120
       replace H := Option.bind_eq_some_iff.mp H
       obtain ⟨t109, A130, H⟩ := H
       replace H : ((earshotlaw03_root.f kj1 (wrap64 ((wrap64 (1073741824 + t108)) * 536870912))).bind fun t110 => (some (t109, wrap64 (t110 + 1)))) = some (r1, r2) := H
       have A13 := Aside0.mk A130
       clear A130
       replace H := Option.bind_eq_some_iff.mp H
       obtain ⟨t110, A140, H⟩ := H
       replace H : (some (t109, wrap64 (t110 + 1))) = some (r1, r2) := H
       have A14 := Aside0.mk A140
       clear A140
       simp only [Option.some.injEq, Prod.mk.injEq] at H
       obtain ⟨rfl, rfl⟩ := H
       go_wp2_with (first | ((with_reducible refine gate_callee (f := 49) rfl ?_); refine goesL_ (some 52) rfl rfl Tryd.func49 (by kernel_rfl) rfl #[.int .i64 (wrap64 (2 * x0_1))] rfl (by (try simp only [List.map_toArray, List.map_cons, List.map_nil]); first | done | rfl | (simp only [List.length_drop, List.length_take]; rfl)) ?_; (with_reducible refine (ih kj1 (by have := HJ1.out; omega) (wrap64 (2 * x0_1)) t107 t108 _ A12.out).mono ?_); rintro e w' ⟨rfl, ⟨nd, rfl⟩⟩; refine ⟨_, rfl, ?_⟩) | ((with_reducible refine gate_callee (f := 111) rfl ?_); refine goesL_ (some 58) rfl rfl Tryd.func111 (by kernel_rfl) rfl #[.int .i64 (wrap64 ((wrap64 (1073741824 + t107)) * 536870912))] rfl (by (try simp only [List.map_toArray, List.map_cons, List.map_nil]); first | done | rfl | (simp only [List.length_drop, List.length_take]; rfl)) ?_; (with_reducible refine (earshotlaw03_root.calls kj1 (wrap64 ((wrap64 (1073741824 + t107)) * 536870912)) t109 _ A13.out).mono ?_); rintro e w' ⟨rfl, ⟨nd, rfl⟩⟩; refine ⟨_, rfl, ?_⟩) | ((with_reducible refine gate_callee (f := 111) rfl ?_); refine goesL_ (some 62) rfl rfl Tryd.func111 (by kernel_rfl) rfl #[.int .i64 (wrap64 ((wrap64 (1073741824 + t108)) * 536870912))] rfl (by (try simp only [List.map_toArray, List.map_cons, List.map_nil]); first | done | rfl | (simp only [List.length_drop, List.length_take]; rfl)) ?_; (with_reducible refine (earshotlaw03_root.calls kj1 (wrap64 ((wrap64 (1073741824 + t108)) * 536870912)) t110 _ A14.out).mono ?_); rintro e w' ⟨rfl, ⟨nd, rfl⟩⟩; refine ⟨_, rfl, ?_⟩))
       go_ret2
       exact ⟨by first | rfl | (simp; done) | (simp [*]; done), by repeat (first | exact Drawn0.refl _ | apply Drawn0.step)⟩

/-! ### earshotlaw03_FeatureTable: function 11 -/
mutual
def earshotlaw03_FeatureTable.j0 : Nat → Int → Int → Bool → Option (Bool)
 | 0, _, _, _ => none
 | k + 1, x0, x3, x33 => if x33 = true then (some false) else ((feature_Cosine.f (wrap64 (256 - (Int.tmod x0 256)))).bind fun bt105 => (if bt105.2 = 0 then (earshotlaw03_FeatureTable.j1 k x3 (Int.tmod x0 256) (bt105.1 != x3)) else (earshotlaw03_FeatureTable.j1 k x3 (Int.tmod x0 256) true)))
def earshotlaw03_FeatureTable.j1 : Nat → Int → Int → Bool → Option (Bool)
 | 0, _, _, _ => none
 | k + 1, x3, x5, x48 => if x48 = true then (some false) else ((earshotlaw03_cosine.f k x5).bind fun bt107 => (if (wrap64 ((wrap64 ((wrap64 (2 * x3)) - 1)) * 32768)) ≤ bt107.2 then (if bt107.1 ≤ (wrap64 ((wrap64 ((wrap64 (2 * x3)) + 1)) * 32768)) then ((earshotlaw03_known.f k).bind fun t109 => (some t109)) else (some false)) else (some false)))
end
def earshotlaw03_FeatureTable.f (k : Nat) (a0 : Int) : Option (Bool) := (feature_Cosine.f a0).bind fun bt101 => (if a0 < 0 then (if bt101.2 = 2 then (if bt101.1 = 0 then ((earshotlaw03_known.f k).bind fun t103 => (some t103)) else (some false)) else (some false)) else (if bt101.2 = 0 then ((earshotref03_C.f a0).bind fun t104 => (earshotlaw03_FeatureTable.j0 k a0 bt101.1 (bt101.1 != t104))) else (earshotlaw03_FeatureTable.j0 k a0 bt101.1 true)))
theorem earshotlaw03_FeatureTable.mono_l : ∀ k, (∀ y0 y1 y2, LeO (earshotlaw03_FeatureTable.j0 k y0 y1 y2) (earshotlaw03_FeatureTable.j0 (k + 1) y0 y1 y2)) ∧ (∀ y0 y1 y2, LeO (earshotlaw03_FeatureTable.j1 k y0 y1 y2) (earshotlaw03_FeatureTable.j1 (k + 1) y0 y1 y2))
 | 0 => ⟨fun _ _ _ r h => by simp [earshotlaw03_FeatureTable.j0] at h, fun _ _ _ r h => by simp [earshotlaw03_FeatureTable.j1] at h⟩
 | k + 1 => by
  obtain ⟨ih0, ih1⟩ := earshotlaw03_FeatureTable.mono_l k
  refine ⟨?_, ?_⟩
  ·intro y0 y1 y2
   unfold earshotlaw03_FeatureTable.j0
   repeat' first
   | (with_reducible exact ih0 _ _ _)
   | (with_reducible exact ih1 _ _ _)
   | (with_reducible exact earshotlaw03_cosine.mono _ _)
   | (with_reducible exact earshotlaw03_known.mono _)
   | (with_reducible exact LeO.refl _)
   | (with_reducible exact LeO.none _)
   | (with_reducible refine LeO.ite ?_ ?_)
   | (with_reducible refine LeO.bind ?_ (fun _ => ?_))
   | exact ih0 _ _ _
   | exact ih1 _ _ _
   | exact earshotlaw03_cosine.mono _ _
   | exact earshotlaw03_known.mono _
   | exact LeO.none _
   | refine LeO.ite ?_ ?_
   | refine LeO.bind ?_ (fun _ => ?_)
  ·intro y0 y1 y2
   unfold earshotlaw03_FeatureTable.j1
   repeat' first
   | (with_reducible exact ih0 _ _ _)
   | (with_reducible exact ih1 _ _ _)
   | (with_reducible exact earshotlaw03_cosine.mono _ _)
   | (with_reducible exact earshotlaw03_known.mono _)
   | (with_reducible exact LeO.refl _)
   | (with_reducible exact LeO.none _)
   | (with_reducible refine LeO.ite ?_ ?_)
   | (with_reducible refine LeO.bind ?_ (fun _ => ?_))
   | exact ih0 _ _ _
   | exact ih1 _ _ _
   | exact earshotlaw03_cosine.mono _ _
   | exact earshotlaw03_known.mono _
   | exact LeO.none _
   | refine LeO.ite ?_ ?_
   | refine LeO.bind ?_ (fun _ => ?_)
theorem earshotlaw03_FeatureTable.mono : ∀ a0 k, LeO (earshotlaw03_FeatureTable.f k a0) (earshotlaw03_FeatureTable.f (k + 1) a0) := by
 intro a0 k
 obtain ⟨ih0, ih1⟩ := earshotlaw03_FeatureTable.mono_l k
 unfold earshotlaw03_FeatureTable.f
 repeat' first
   | (with_reducible exact ih0 _ _ _)
   | (with_reducible exact ih1 _ _ _)
   | (with_reducible exact earshotlaw03_cosine.mono _ _)
   | (with_reducible exact earshotlaw03_known.mono _)
   | (with_reducible exact LeO.refl _)
   | (with_reducible exact LeO.none _)
   | (with_reducible refine LeO.ite ?_ ?_)
   | (with_reducible refine LeO.bind ?_ (fun _ => ?_))
   | exact ih0 _ _ _
   | exact ih1 _ _ _
   | exact earshotlaw03_cosine.mono _ _
   | exact earshotlaw03_known.mono _
   | exact LeO.none _
   | refine LeO.ite ?_ ?_
   | refine LeO.bind ?_ (fun _ => ?_)
set_option maxHeartbeats 8000000 in
set_option maxRecDepth 100000 in
theorem earshotlaw03_FeatureTable.calls (k : Nat) (a0 : Int) (r : Bool) (w : World) (ht : Kd.C (Kd.int .i64) w (some ⟨0, 0, none⟩) 65 tabL) (h : earshotlaw03_FeatureTable.f k a0 = some r) :
  Calls Tryd.prog 11 #[.int .i64 a0] w fun e w' => e = .returned (.bool r) ∧ Below w.heap.size w w' := by
 have HRT := Aside0.mk ht
 clear ht
 have HB := Aside0.mk (Below.refl w.heap.size w)
 have H : ((feature_Cosine.f a0).bind fun bt101 => (if a0 < 0 then (if bt101.2 = 2 then (if bt101.1 = 0 then ((earshotlaw03_known.f k).bind fun t103 => (some t103)) else (some false)) else (some false)) else (if bt101.2 = 0 then ((earshotref03_C.f a0).bind fun t104 => (earshotlaw03_FeatureTable.j0 k a0 bt101.1 (bt101.1 != t104))) else (earshotlaw03_FeatureTable.j0 k a0 bt101.1 true)))) = some r := h
 clear h
 replace H := Option.bind_eq_some_iff.mp H
 obtain ⟨⟨t101, t102⟩, A20, H⟩ := H
 replace H : (if a0 < 0 then (if t102 = 2 then (if t101 = 0 then ((earshotlaw03_known.f k).bind fun t103 => (some t103)) else (some false)) else (some false)) else (if t102 = 0 then ((earshotref03_C.f a0).bind fun t104 => (earshotlaw03_FeatureTable.j0 k a0 t101 (t101 != t104))) else (earshotlaw03_FeatureTable.j0 k a0 t101 true))) = some r := H
 have A2 := Aside0.mk A20
 clear A20
 by_cases c3 : a0 < 0
 ·rw [if_pos c3] at H
  have c3b0 : decide (a0 < 0) = true := decide_eq_true c3
  clear c3
  by_cases c4 : t102 = 2
  ·rw [if_pos c4] at H
   have c4b0 : (t102 == 2) = true := beq_iff_eq.mpr c4
   have c4b1 : (t102 != 2) = false := bne_eq_false_iff_eq.mpr c4
   clear c4
   by_cases c5 : t101 = 0
   ·rw [if_pos c5] at H
    have c5b0 : (t101 == 0) = true := beq_iff_eq.mpr c5
    have c5b1 : (t101 != 0) = false := bne_eq_false_iff_eq.mpr c5
    clear c5
    replace H := Option.bind_eq_some_iff.mp H
    obtain ⟨t103, A60, H⟩ := H
    replace H : (some t103) = some r := H
    have A6 := Aside0.mk A60
    clear A60
    obtain rfl := Option.some.inj H
    go_enter Tryd.func11, Tryd.ntmps11
    go_wp2_with (first | ((with_reducible refine gate_callee (f := 47) rfl ?_); refine goesL_ (some 12) rfl rfl Tryd.func47 (by kernel_rfl) rfl #[.int .i64 a0] rfl (by (try simp only [List.map_toArray, List.map_cons, List.map_nil]); first | done | rfl | (simp only [List.length_drop, List.length_take]; rfl)) ?_; (with_reducible refine (feature_Cosine.calls a0 t101 t102 _ ?side1 A2.out).mono ?_); (case side1 => repeat (first | exact HRT.out | (with_reducible refine Kd.C_alloc ?_ _) | (with_reducible refine Kd.C_drewN ?_ _) | (with_reducible refine Kd.C_drew ?_))); rintro e w' ⟨rfl, ⟨nd, rfl⟩⟩; refine ⟨_, rfl, ?_⟩) | (go_at_call 22; (with_reducible refine (earshotlaw03_known.calls k  t103 _ ?side1 A6.out).mono ?_); (case side1 => repeat (first | exact HRT.out | (with_reducible refine Kd.C_alloc ?_ _) | (with_reducible refine Kd.C_drewN ?_ _) | (with_reducible refine Kd.C_drew ?_))); rintro e w7 ⟨rfl, hb⟩; have n0_ := Aside0.mk (below_step (by repeat (first | (with_reducible first | exact HB.out | apply below_alloc | apply pw_below_drewN | apply below_drew1) | exact HB.out)) hb); clear HB; have HB := n0_; clear n0_; (try clear hb); (try clear hb2); (try clear hk); (try clear hi)))
    go_ret
    exact ⟨by first | rfl | (simp [errW_none, errW_some] <;> rfl) | (simp [*, errW_none, errW_some] <;> rfl), by repeat (first | (with_reducible first | exact HB.out | apply below_alloc | apply pw_below_drewN | apply below_drew1) | exact HB.out)⟩
   ·rw [if_neg c5] at H
    have c5b0 : (t101 == 0) = false := beq_eq_false_iff_ne.mpr c5
    have c5b1 : (t101 != 0) = true := bne_iff_ne.mpr c5
    obtain rfl := Option.some.inj H
    go_enter Tryd.func11, Tryd.ntmps11
    go_wp2_with (first | ((with_reducible refine gate_callee (f := 47) rfl ?_); refine goesL_ (some 12) rfl rfl Tryd.func47 (by kernel_rfl) rfl #[.int .i64 a0] rfl (by (try simp only [List.map_toArray, List.map_cons, List.map_nil]); first | done | rfl | (simp only [List.length_drop, List.length_take]; rfl)) ?_; (with_reducible refine (feature_Cosine.calls a0 t101 t102 _ ?side1 A2.out).mono ?_); (case side1 => repeat (first | exact HRT.out | (with_reducible refine Kd.C_alloc ?_ _) | (with_reducible refine Kd.C_drewN ?_ _) | (with_reducible refine Kd.C_drew ?_))); rintro e w' ⟨rfl, ⟨nd, rfl⟩⟩; refine ⟨_, rfl, ?_⟩))
    go_ret
    exact ⟨by first | rfl | (simp [errW_none, errW_some] <;> rfl) | (simp [*, errW_none, errW_some] <;> rfl), by repeat (first | (with_reducible first | exact HB.out | apply below_alloc | apply pw_below_drewN | apply below_drew1) | exact HB.out)⟩
  ·rw [if_neg c4] at H
   have c4b0 : (t102 == 2) = false := beq_eq_false_iff_ne.mpr c4
   have c4b1 : (t102 != 2) = true := bne_iff_ne.mpr c4
   obtain rfl := Option.some.inj H
   go_enter Tryd.func11, Tryd.ntmps11
   go_wp2_with (first | ((with_reducible refine gate_callee (f := 47) rfl ?_); refine goesL_ (some 12) rfl rfl Tryd.func47 (by kernel_rfl) rfl #[.int .i64 a0] rfl (by (try simp only [List.map_toArray, List.map_cons, List.map_nil]); first | done | rfl | (simp only [List.length_drop, List.length_take]; rfl)) ?_; (with_reducible refine (feature_Cosine.calls a0 t101 t102 _ ?side1 A2.out).mono ?_); (case side1 => repeat (first | exact HRT.out | (with_reducible refine Kd.C_alloc ?_ _) | (with_reducible refine Kd.C_drewN ?_ _) | (with_reducible refine Kd.C_drew ?_))); rintro e w' ⟨rfl, ⟨nd, rfl⟩⟩; refine ⟨_, rfl, ?_⟩))
   go_ret
   exact ⟨by first | rfl | (simp [errW_none, errW_some] <;> rfl) | (simp [*, errW_none, errW_some] <;> rfl), by repeat (first | (with_reducible first | exact HB.out | apply below_alloc | apply pw_below_drewN | apply below_drew1) | exact HB.out)⟩
 ·rw [if_neg c3] at H
  have c3b0 : decide (a0 < 0) = false := decide_eq_false c3
  clear c3
  have HC8 := Aside0.mk H
  clear H
  go_enter Tryd.func11, Tryd.ntmps11
  go_upto_region 4 with (first | ((with_reducible refine gate_callee (f := 47) rfl ?_); refine goesL_ (some 12) rfl rfl Tryd.func47 (by kernel_rfl) rfl #[.int .i64 a0] rfl (by (try simp only [List.map_toArray, List.map_cons, List.map_nil]); first | done | rfl | (simp only [List.length_drop, List.length_take]; rfl)) ?_; (with_reducible refine (feature_Cosine.calls a0 t101 t102 _ ?side1 A2.out).mono ?_); (case side1 => repeat (first | exact HRT.out | (with_reducible refine Kd.C_alloc ?_ _) | (with_reducible refine Kd.C_drewN ?_ _) | (with_reducible refine Kd.C_drew ?_))); rintro e w' ⟨rfl, ⟨nd, rfl⟩⟩; refine ⟨_, rfl, ?_⟩))
  (try simp only [Act.put, List.setIfInBounds_toArray, List.set_cons_zero, List.set_cons_succ])
  go_cut [33] (fun v33 wc => ∃ (kq : Nat) (x33_7 : Bool), v33 = .bool x33_7 ∧ Aside0 (earshotlaw03_FeatureTable.j0 kq a0 t101 x33_7 = some r) ∧ Aside0 (kq ≤ k) ∧ Aside0 (Below w.heap.size w wc))
  case first =>
   have H := HC8.out
   clear HC8
   by_cases c9 : t102 = 0
   ·rw [if_pos c9] at H
    have c9b0 : (t102 == 0) = true := beq_iff_eq.mpr c9
    have c9b1 : (t102 != 0) = false := bne_eq_false_iff_eq.mpr c9
    clear c9
    (first | rw [c9b0] | (simp only [i64_w, i32_w]; rw [c9b0]) | skip)
    replace H := Option.bind_eq_some_iff.mp H
    obtain ⟨t104, A100, H⟩ := H
    replace H : (earshotlaw03_FeatureTable.j0 k a0 t101 (t101 != t104)) = some r := H
    have A10 := Aside0.mk A100
    clear A100
    have H' := Aside0.mk H
    clear H
    go_wp2_with (first | (go_at_call 48; (with_reducible refine (earshotref03_C.calls a0 t104 _ ?side1 A10.out).mono ?_); (case side1 => repeat (first | exact (Kd.C_below HRT.out HB.out) | (with_reducible refine Kd.C_alloc ?_ _) | (with_reducible refine Kd.C_drewN ?_ _) | (with_reducible refine Kd.C_drew ?_))); rintro e w' ⟨rfl, ⟨nd, rfl⟩⟩))
    go_meet
    case rel => exact ⟨_, ((t101 != t104)), (by first | rfl | (simp; done) | (simp only [i64_w]; done) | (simp [*]; done)), H', ⟨by first | omega | exact Nat.le_refl _⟩, ⟨by repeat (first | (with_reducible first | exact HB.out | apply below_alloc | apply pw_below_drewN | apply below_drew1) | exact HB.out)⟩⟩
   ·rw [if_neg c9] at H
    have c9b0 : (t102 == 0) = false := beq_eq_false_iff_ne.mpr c9
    have c9b1 : (t102 != 0) = true := bne_iff_ne.mpr c9
    (first | rw [c9b0] | (simp only [i64_w, i32_w]; rw [c9b0]) | skip)
    have H' := Aside0.mk H
    clear H
    go_wp2
    go_meet
    case rel => exact ⟨_, (true), (by first | rfl | (simp; done) | (simp only [i64_w]; done) | (simp [*]; done)), H', ⟨by first | omega | exact Nat.le_refl _⟩, ⟨by repeat (first | (with_reducible first | exact HB.out | apply below_alloc | apply pw_below_drewN | apply below_drew1) | exact HB.out)⟩⟩
  case rest =>
   clear HC8
   try clear c1
   try clear p2
   try clear c3
   try clear c3b0
   try clear c4
   try clear c4b0
   try clear c4b1
   try clear c5
   try clear c5b0
   try clear c5b1
   try clear c9
   try clear c9b0
   try clear c9b1
   obtain ⟨kq, x33_7, rfl, HA, HJ7, HB⟩ := hcut
   cases kq with
   | zero => exact absurd HA.out (by simp [earshotlaw03_FeatureTable.j0])
   | succ kj7 =>
    have H := HA.out
    clear HA
    simp only [earshotlaw03_FeatureTable.j0] at H
    by_cases c11 : x33_7 = true
    ·subst c11
     have H1 : (some false) = some r := by rw [if_pos rfl] at H; exact H
     clear H
     have H := H1
     clear H1
     obtain rfl := Option.some.inj H
     go_wp2
     go_ret
     exact ⟨by first | rfl | (simp [errW_none, errW_some] <;> rfl) | (simp [*, errW_none, errW_some] <;> rfl), by repeat (first | (with_reducible first | exact HB.out | apply below_alloc | apply pw_below_drewN | apply below_drew1) | exact HB.out)⟩
    ·replace c11 := Bool.eq_false_iff.mpr c11
     subst c11
     have H1 : ((feature_Cosine.f (wrap64 (256 - (Int.tmod a0 256)))).bind fun bt105 => (if bt105.2 = 0 then (earshotlaw03_FeatureTable.j1 kj7 t101 (Int.tmod a0 256) (bt105.1 != t101)) else (earshotlaw03_FeatureTable.j1 kj7 t101 (Int.tmod a0 256) true))) = some r := by rw [if_neg (show ¬ (false = true) by decide)] at H; exact H
     clear H
     have H := H1
     clear H1
     replace H := Option.bind_eq_some_iff.mp H
     obtain ⟨⟨t105, t106⟩, A120, H⟩ := H
     replace H : (if t106 = 0 then (earshotlaw03_FeatureTable.j1 kj7 t101 (Int.tmod a0 256) (t105 != t101)) else (earshotlaw03_FeatureTable.j1 kj7 t101 (Int.tmod a0 256) true)) = some r := H
     have A12 := Aside0.mk A120
     clear A120
     have HC13 := Aside0.mk H
     clear H
     go_upto_region 8 with (first | ((with_reducible refine gate_callee (f := 47) rfl ?_); refine goesL_ (some 39) rfl rfl Tryd.func47 (by kernel_rfl) rfl #[.int .i64 (wrap64 (256 - (Int.tmod a0 256)))] rfl (by (try simp only [List.map_toArray, List.map_cons, List.map_nil]); first | done | rfl | (simp only [List.length_drop, List.length_take]; rfl)) ?_; (with_reducible refine (feature_Cosine.calls (wrap64 (256 - (Int.tmod a0 256))) t105 t106 _ ?side1 A12.out).mono ?_); (case side1 => repeat (first | exact (Kd.C_below HRT.out HB.out) | (with_reducible refine Kd.C_alloc ?_ _) | (with_reducible refine Kd.C_drewN ?_ _) | (with_reducible refine Kd.C_drew ?_))); rintro e w' ⟨rfl, ⟨nd, rfl⟩⟩; refine ⟨_, rfl, ?_⟩))
     (try simp only [Act.put, List.setIfInBounds_toArray, List.set_cons_zero, List.set_cons_succ])
     go_cut [48] (fun v48 wc => ∃ (kq : Nat) (x48_12 : Bool), v48 = .bool x48_12 ∧ Aside0 (earshotlaw03_FeatureTable.j1 kq t101 (Int.tmod a0 256) x48_12 = some r) ∧ Aside0 (kq ≤ kj7) ∧ Aside0 (Below w.heap.size w wc))
     case first =>
      have H := HC13.out
      clear HC13
      by_cases c14 : t106 = 0
      ·rw [if_pos c14] at H
       have c14b0 : (t106 == 0) = true := beq_iff_eq.mpr c14
       have c14b1 : (t106 != 0) = false := bne_eq_false_iff_eq.mpr c14
       clear c14
       (first | rw [c14b0] | (simp only [i64_w, i32_w]; rw [c14b0]) | skip)
       have H' := Aside0.mk H
       clear H
       go_wp2
       go_meet
       case rel => exact ⟨_, ((t105 != t101)), (by first | rfl | (simp; done) | (simp only [i64_w]; done) | (simp [*]; done)), H', ⟨by have := HJ7.out; first | omega | exact Nat.le_refl _⟩, ⟨by repeat (first | (with_reducible first | exact HB.out | apply below_alloc | apply pw_below_drewN | apply below_drew1) | exact HB.out)⟩⟩
      ·rw [if_neg c14] at H
       have c14b0 : (t106 == 0) = false := beq_eq_false_iff_ne.mpr c14
       have c14b1 : (t106 != 0) = true := bne_iff_ne.mpr c14
       (first | rw [c14b0] | (simp only [i64_w, i32_w]; rw [c14b0]) | skip)
       have H' := Aside0.mk H
       clear H
       go_wp2
       go_meet
       case rel => exact ⟨_, (true), (by first | rfl | (simp; done) | (simp only [i64_w]; done) | (simp [*]; done)), H', ⟨by have := HJ7.out; first | omega | exact Nat.le_refl _⟩, ⟨by repeat (first | (with_reducible first | exact HB.out | apply below_alloc | apply pw_below_drewN | apply below_drew1) | exact HB.out)⟩⟩
     case rest =>
      clear HC13
      try clear c1
      try clear p2
      try clear c3
      try clear c3b0
      try clear c4
      try clear c4b0
      try clear c4b1
      try clear c5
      try clear c5b0
      try clear c5b1
      try clear p6
      try clear c9
      try clear c9b0
      try clear c9b1
      try clear c11
      try clear c14
      try clear c14b0
      try clear c14b1
      try clear p2
      obtain ⟨kq, x48_12, rfl, HA, HJ12, HB⟩ := hcut
      cases kq with
      | zero => exact absurd HA.out (by simp [earshotlaw03_FeatureTable.j1])
      | succ kj12 =>
       have H := HA.out
       clear HA
       simp only [earshotlaw03_FeatureTable.j1] at H
       by_cases c15 : x48_12 = true
       ·subst c15
        have H1 : (some false) = some r := by rw [if_pos rfl] at H; exact H
        clear H
        have H := H1
        clear H1
        obtain rfl := Option.some.inj H
        go_wp2
        go_ret
        exact ⟨by first | rfl | (simp [errW_none, errW_some] <;> rfl) | (simp [*, errW_none, errW_some] <;> rfl), by repeat (first | (with_reducible first | exact HB.out | apply below_alloc | apply pw_below_drewN | apply below_drew1) | exact HB.out)⟩
       ·replace c15 := Bool.eq_false_iff.mpr c15
        subst c15
        have H1 : ((earshotlaw03_cosine.f kj12 (Int.tmod a0 256)).bind fun bt107 => (if (wrap64 ((wrap64 ((wrap64 (2 * t101)) - 1)) * 32768)) ≤ bt107.2 then (if bt107.1 ≤ (wrap64 ((wrap64 ((wrap64 (2 * t101)) + 1)) * 32768)) then ((earshotlaw03_known.f kj12).bind fun t109 => (some t109)) else (some false)) else (some false))) = some r := by rw [if_neg (show ¬ (false = true) by decide)] at H; exact H
        clear H
        have H := H1
        clear H1
        replace H := Option.bind_eq_some_iff.mp H
        obtain ⟨⟨t107, t108⟩, A160, H⟩ := H
        replace H : (if (wrap64 ((wrap64 ((wrap64 (2 * t101)) - 1)) * 32768)) ≤ t108 then (if t107 ≤ (wrap64 ((wrap64 ((wrap64 (2 * t101)) + 1)) * 32768)) then ((earshotlaw03_known.f kj12).bind fun t109 => (some t109)) else (some false)) else (some false)) = some r := H
        have A16 := Aside0.mk A160
        clear A160
        by_cases c17 : (wrap64 ((wrap64 ((wrap64 (2 * t101)) - 1)) * 32768)) ≤ t108
        ·rw [if_pos c17] at H
         have c17b0 : decide ((wrap64 ((wrap64 ((wrap64 (2 * t101)) - 1)) * 32768)) ≤ t108) = true := decide_eq_true c17
         clear c17
         by_cases c18 : t107 ≤ (wrap64 ((wrap64 ((wrap64 (2 * t101)) + 1)) * 32768))
         ·rw [if_pos c18] at H
          have c18b0 : decide (t107 ≤ (wrap64 ((wrap64 ((wrap64 (2 * t101)) + 1)) * 32768))) = true := decide_eq_true c18
          clear c18
          replace H := Option.bind_eq_some_iff.mp H
          obtain ⟨t109, A190, H⟩ := H
          replace H : (some t109) = some r := H
          have A19 := Aside0.mk A190
          clear A190
          obtain rfl := Option.some.inj H
          go_wp2_with (first | ((with_reducible refine gate_callee (f := 49) rfl ?_); refine goesL_ (some 51) rfl rfl Tryd.func49 (by kernel_rfl) rfl #[.int .i64 (Int.tmod a0 256)] rfl (by (try simp only [List.map_toArray, List.map_cons, List.map_nil]); first | done | rfl | (simp only [List.length_drop, List.length_take]; rfl)) ?_; (with_reducible refine (earshotlaw03_cosine.calls kj12 (Int.tmod a0 256) t107 t108 _ A16.out).mono ?_); rintro e w' ⟨rfl, ⟨nd, rfl⟩⟩; refine ⟨_, rfl, ?_⟩) | (go_at_call 22; (with_reducible refine (earshotlaw03_known.calls kj12  t109 _ ?side1 A19.out).mono ?_); (case side1 => repeat (first | exact (Kd.C_below HRT.out (by repeat (first | (with_reducible first | exact HB.out | apply below_alloc | apply pw_below_drewN | apply below_drew1) | exact HB.out))) | (with_reducible refine Kd.C_alloc ?_ _) | (with_reducible refine Kd.C_drewN ?_ _) | (with_reducible refine Kd.C_drew ?_))); rintro e w20 ⟨rfl, hb⟩; have n0_ := Aside0.mk (below_step (by repeat (first | (with_reducible first | exact HB.out | apply below_alloc | apply pw_below_drewN | apply below_drew1) | exact HB.out)) hb); clear HB; have HB := n0_; clear n0_; (try clear hb); (try clear hb2); (try clear hk); (try clear hi)))
          go_ret
          exact ⟨by first | rfl | (simp [errW_none, errW_some] <;> rfl) | (simp [*, errW_none, errW_some] <;> rfl), by repeat (first | (with_reducible first | exact HB.out | apply below_alloc | apply pw_below_drewN | apply below_drew1) | exact HB.out)⟩
         ·rw [if_neg c18] at H
          have c18b0 : decide (t107 ≤ (wrap64 ((wrap64 ((wrap64 (2 * t101)) + 1)) * 32768))) = false := decide_eq_false c18
          clear c18
          obtain rfl := Option.some.inj H
          go_wp2_with (first | ((with_reducible refine gate_callee (f := 49) rfl ?_); refine goesL_ (some 51) rfl rfl Tryd.func49 (by kernel_rfl) rfl #[.int .i64 (Int.tmod a0 256)] rfl (by (try simp only [List.map_toArray, List.map_cons, List.map_nil]); first | done | rfl | (simp only [List.length_drop, List.length_take]; rfl)) ?_; (with_reducible refine (earshotlaw03_cosine.calls kj12 (Int.tmod a0 256) t107 t108 _ A16.out).mono ?_); rintro e w' ⟨rfl, ⟨nd, rfl⟩⟩; refine ⟨_, rfl, ?_⟩))
          go_ret
          exact ⟨by first | rfl | (simp [errW_none, errW_some] <;> rfl) | (simp [*, errW_none, errW_some] <;> rfl), by repeat (first | (with_reducible first | exact HB.out | apply below_alloc | apply pw_below_drewN | apply below_drew1) | exact HB.out)⟩
        ·rw [if_neg c17] at H
         have c17b0 : decide ((wrap64 ((wrap64 ((wrap64 (2 * t101)) - 1)) * 32768)) ≤ t108) = false := decide_eq_false c17
         clear c17
         obtain rfl := Option.some.inj H
         go_wp2_with (first | ((with_reducible refine gate_callee (f := 49) rfl ?_); refine goesL_ (some 51) rfl rfl Tryd.func49 (by kernel_rfl) rfl #[.int .i64 (Int.tmod a0 256)] rfl (by (try simp only [List.map_toArray, List.map_cons, List.map_nil]); first | done | rfl | (simp only [List.length_drop, List.length_take]; rfl)) ?_; (with_reducible refine (earshotlaw03_cosine.calls kj12 (Int.tmod a0 256) t107 t108 _ A16.out).mono ?_); rintro e w' ⟨rfl, ⟨nd, rfl⟩⟩; refine ⟨_, rfl, ?_⟩))
         go_ret
         exact ⟨by first | rfl | (simp [errW_none, errW_some] <;> rfl) | (simp [*, errW_none, errW_some] <;> rfl), by repeat (first | (with_reducible first | exact HB.out | apply below_alloc | apply pw_below_drewN | apply below_drew1) | exact HB.out)⟩

/-- THE ONE PURE STATEMENT of earshotlaw03_FeatureTable: yours. -/
def earshotlaw03_FeatureTable.Pure : Prop := ∀ (a0 : Int), (Lit.int .i64 a0).wf = true → ∃ k, earshotlaw03_FeatureTable.f k a0 = some true
theorem earshotlaw03_FeatureTable.walk (P : earshotlaw03_FeatureTable.Pure) (a0 : Int) (w : World) (ht : Kd.C (Kd.int .i64) w (some ⟨0, 0, none⟩) 65 tabL) (w0 : (Lit.int .i64 a0).wf = true) :
  Calls Tryd.prog 11 #[.int .i64 a0] w fun e w' => e = .returned (.bool true) ∧ Below w.heap.size w w' := by
 obtain ⟨k, h⟩ := P a0 w0
 refine (earshotlaw03_FeatureTable.calls k a0 true w ht h).mono ?_
 rintro e w' ⟨rfl, hd⟩
 exact ⟨rfl, hd⟩

/-! ### earshotref03_Length: function 24 -/
def earshotref03_Length.f (a0 : Int) : Option (Bool) := if a0 = 1 then (some true) else (if a0 = 2 then (some true) else (if a0 = 4 then (some true) else (if a0 = 8 then (some true) else (if a0 = 16 then (some true) else (if a0 = 32 then (some true) else (some (a0 == 64)))))))
set_option maxHeartbeats 8000000 in
set_option maxRecDepth 100000 in
theorem earshotref03_Length.calls (a0 : Int) (r : Bool) (w : World) (h : earshotref03_Length.f a0 = some r) :
  Calls Tryd.prog 24 #[.int .i64 a0] w fun e w' => e = .returned (.bool r) ∧ Drawn0 w w' := by
 have H : (if a0 = 1 then (some true) else (if a0 = 2 then (some true) else (if a0 = 4 then (some true) else (if a0 = 8 then (some true) else (if a0 = 16 then (some true) else (if a0 = 32 then (some true) else (some (a0 == 64)))))))) = some r := h
 clear h
 by_cases c2 : a0 = 1
 ·rw [if_pos c2] at H
  have c2b0 : (a0 == 1) = true := beq_iff_eq.mpr c2
  have c2b1 : (a0 != 1) = false := bne_eq_false_iff_eq.mpr c2
  clear c2
  obtain rfl := Option.some.inj H
  go_enter Tryd.func24, Tryd.ntmps24
  go_wp2
  go_ret
  exact ⟨by first | rfl | (simp; done) | (simp [*]; done), by repeat (first | exact Drawn0.refl _ | apply Drawn0.step)⟩
 ·rw [if_neg c2] at H
  have c2b0 : (a0 == 1) = false := beq_eq_false_iff_ne.mpr c2
  have c2b1 : (a0 != 1) = true := bne_iff_ne.mpr c2
  by_cases c3 : a0 = 2
  ·rw [if_pos c3] at H
   have c3b0 : (a0 == 2) = true := beq_iff_eq.mpr c3
   have c3b1 : (a0 != 2) = false := bne_eq_false_iff_eq.mpr c3
   clear c3
   obtain rfl := Option.some.inj H
   go_enter Tryd.func24, Tryd.ntmps24
   go_wp2
   go_ret
   exact ⟨by first | rfl | (simp; done) | (simp [*]; done), by repeat (first | exact Drawn0.refl _ | apply Drawn0.step)⟩
  ·rw [if_neg c3] at H
   have c3b0 : (a0 == 2) = false := beq_eq_false_iff_ne.mpr c3
   have c3b1 : (a0 != 2) = true := bne_iff_ne.mpr c3
   by_cases c4 : a0 = 4
   ·rw [if_pos c4] at H
    have c4b0 : (a0 == 4) = true := beq_iff_eq.mpr c4
    have c4b1 : (a0 != 4) = false := bne_eq_false_iff_eq.mpr c4
    clear c4
    obtain rfl := Option.some.inj H
    go_enter Tryd.func24, Tryd.ntmps24
    go_wp2
    go_ret
    exact ⟨by first | rfl | (simp; done) | (simp [*]; done), by repeat (first | exact Drawn0.refl _ | apply Drawn0.step)⟩
   ·rw [if_neg c4] at H
    have c4b0 : (a0 == 4) = false := beq_eq_false_iff_ne.mpr c4
    have c4b1 : (a0 != 4) = true := bne_iff_ne.mpr c4
    by_cases c5 : a0 = 8
    ·rw [if_pos c5] at H
     have c5b0 : (a0 == 8) = true := beq_iff_eq.mpr c5
     have c5b1 : (a0 != 8) = false := bne_eq_false_iff_eq.mpr c5
     clear c5
     obtain rfl := Option.some.inj H
     go_enter Tryd.func24, Tryd.ntmps24
     go_wp2
     go_ret
     exact ⟨by first | rfl | (simp; done) | (simp [*]; done), by repeat (first | exact Drawn0.refl _ | apply Drawn0.step)⟩
    ·rw [if_neg c5] at H
     have c5b0 : (a0 == 8) = false := beq_eq_false_iff_ne.mpr c5
     have c5b1 : (a0 != 8) = true := bne_iff_ne.mpr c5
     by_cases c6 : a0 = 16
     ·rw [if_pos c6] at H
      have c6b0 : (a0 == 16) = true := beq_iff_eq.mpr c6
      have c6b1 : (a0 != 16) = false := bne_eq_false_iff_eq.mpr c6
      clear c6
      obtain rfl := Option.some.inj H
      go_enter Tryd.func24, Tryd.ntmps24
      go_wp2
      go_ret
      exact ⟨by first | rfl | (simp; done) | (simp [*]; done), by repeat (first | exact Drawn0.refl _ | apply Drawn0.step)⟩
     ·rw [if_neg c6] at H
      have c6b0 : (a0 == 16) = false := beq_eq_false_iff_ne.mpr c6
      have c6b1 : (a0 != 16) = true := bne_iff_ne.mpr c6
      by_cases c7 : a0 = 32
      ·rw [if_pos c7] at H
       have c7b0 : (a0 == 32) = true := beq_iff_eq.mpr c7
       have c7b1 : (a0 != 32) = false := bne_eq_false_iff_eq.mpr c7
       clear c7
       obtain rfl := Option.some.inj H
       go_enter Tryd.func24, Tryd.ntmps24
       go_wp2
       go_ret
       exact ⟨by first | rfl | (simp; done) | (simp [*]; done), by repeat (first | exact Drawn0.refl _ | apply Drawn0.step)⟩
      ·rw [if_neg c7] at H
       have c7b0 : (a0 == 32) = false := beq_eq_false_iff_ne.mpr c7
       have c7b1 : (a0 != 32) = true := bne_iff_ne.mpr c7
       obtain rfl := Option.some.inj H
       go_enter Tryd.func24, Tryd.ntmps24
       go_wp2
       go_ret
       exact ⟨by first | rfl | (simp; done) | (simp [*]; done), by repeat (first | exact Drawn0.refl _ | apply Drawn0.step)⟩

/-! ### earshotref02_All: function 25 -/
def earshotref02_All.l0 : Nat → List Int → Int → Int → Int → Option (Bool)
 | 0, _, _, _, _ => none
 | k + 1, x0, x1, x2, x7 => if x7 < (x0.length : Int) then (if 0 ≤ x7 then (if (rd x0 x7) < x1 then (some false) else (if (rd x0 x7) > x2 then (some false) else (earshotref02_All.l0 k x0 x1 x2 (wrap64 (x7 + 1))))) else (none)) else (some true)
def earshotref02_All.f (k : Nat) (l0 : List Int) (a1 : Int) (a2 : Int) : Option (Bool) := earshotref02_All.l0 k l0 a1 a2 0
theorem earshotref02_All.mono_l : ∀ k, (∀ y0 y1 y2 y3, LeO (earshotref02_All.l0 k y0 y1 y2 y3) (earshotref02_All.l0 (k + 1) y0 y1 y2 y3))
 | 0 => fun _ _ _ _ r h => by simp [earshotref02_All.l0] at h
 | k + 1 => by
  have ih0 := earshotref02_All.mono_l k
  ·intro y0 y1 y2 y3
   unfold earshotref02_All.l0
   repeat' first
   | (with_reducible exact ih0 _ _ _ _)
   | (with_reducible exact LeO.refl _)
   | (with_reducible exact LeO.none _)
   | (with_reducible refine LeO.ite ?_ ?_)
   | (with_reducible refine LeO.bind ?_ (fun _ => ?_))
   | exact ih0 _ _ _ _
   | exact LeO.none _
   | refine LeO.ite ?_ ?_
   | refine LeO.bind ?_ (fun _ => ?_)
theorem earshotref02_All.mono : ∀ a0 a1 a2 k, LeO (earshotref02_All.f k a0 a1 a2) (earshotref02_All.f (k + 1) a0 a1 a2) := by
 intro a0 a1 a2 k
 have ih0 := earshotref02_All.mono_l k
 unfold earshotref02_All.f
 repeat' first
   | (with_reducible exact ih0 _ _ _ _)
   | (with_reducible exact LeO.refl _)
   | (with_reducible exact LeO.none _)
   | (with_reducible refine LeO.ite ?_ ?_)
   | (with_reducible refine LeO.bind ?_ (fun _ => ?_))
   | exact ih0 _ _ _ _
   | exact LeO.none _
   | refine LeO.ite ?_ ?_
   | refine LeO.bind ?_ (fun _ => ?_)
set_option maxHeartbeats 8000000 in
set_option maxRecDepth 100000 in
theorem earshotref02_All.calls (k : Nat) (A0 : Option Addr) (c0 : Nat) (l0 : List Int) (a1 : Int) (a2 : Int) (r : Bool) (w : World) (hr0 : Kd.C (Kd.int .i64) w A0 l0.length l0) (hc0 : l0.length ≤ c0) (h : earshotref02_All.f k l0 a1 a2 = some r) :
  Calls Tryd.prog 25 #[.slice A0 l0.length c0, .int .i64 a1, .int .i64 a2] w fun e w' => e = .returned (.bool r) ∧ Drawn0 w w' := by
 have HR0 := Aside0.mk hr0
 have HC0 := Aside0.mk hc0
 clear hr0 hc0
 have H : (earshotref02_All.l0 k l0 a1 a2 0) = some r := h
 clear h
 have H' := Aside0.mk H
 clear H
 go_enter Tryd.func25, Tryd.ntmps25
 go_wp2
 go_loopg [7] k (fun kq v7 w' => ∃ (x7_1 : Int), v7 = .int .i64 x7_1 ∧ Aside0 (earshotref02_All.l0 kq l0 a1 a2 x7_1 = some r) ∧ Aside0 (kq ≤ k) ∧ Drawn0 w w')
 case atStart => exact ⟨(0), (by first | rfl | (simp; done) | (simp only [i64_w]; done) | (simp [*]; done)), H', ⟨Nat.le_refl _⟩, by repeat (first | exact Drawn0.refl _ | apply Drawn0.step)⟩
 case round =>
  clear H'
  try clear c2
  try clear p2
  obtain ⟨x7_1, rfl, HA, HK1, ⟨m1, rfl⟩⟩ := hrel
  cases gk with
  | zero => exact absurd HA.out (by simp [earshotref02_All.l0])
  | succ k1 =>
   have H := HA.out
   clear HA
   simp only [earshotref02_All.l0] at H
   by_cases c4 : x7_1 < (l0.length : Int)
   ·rw [if_pos c4] at H
    have c4b0 : decide (x7_1 < (l0.length : Int)) = true := decide_eq_true c4
    clear c4
    by_cases c5 : 0 ≤ x7_1
    ·rw [if_pos c5] at H
     have c5b0 : decide (0 ≤ x7_1) = true := decide_eq_true c5
     clear c5
     by_cases c6 : (rd l0 x7_1) < a1
     ·rw [if_pos c6] at H
      have c6b0 : decide ((rd l0 x7_1) < a1) = true := decide_eq_true c6
      clear c6
      obtain rfl := Option.some.inj H
      have p101 : 0 ≤ (x7_1 : Int) := of_decide_eq_true (by first | (with_reducible assumption) | assumption)
      have q101 : x7_1 < (l0.length : Int) := of_decide_eq_true (by first | (with_reducible assumption) | assumption)
      obtain ⟨ad101, e101, hx101_0⟩ := Kd.at_int HR0.out x7_1 p101 q101
      cases e101
      replace p101 := eq_true p101
      replace q101 := eq_true q101
      go_wp2
      go_ret
      exact ⟨by first | rfl | (simp; done) | (simp [*]; done), by repeat (first | exact Drawn0.refl _ | apply Drawn0.step)⟩
     ·rw [if_neg c6] at H
      have c6b0 : decide ((rd l0 x7_1) < a1) = false := decide_eq_false c6
      clear c6
      by_cases c7 : (rd l0 x7_1) > a2
      ·rw [if_pos c7] at H
       have c7b0 : decide (a2 < (rd l0 x7_1)) = true := decide_eq_true c7
       clear c7
       obtain rfl := Option.some.inj H
       have p101 : 0 ≤ (x7_1 : Int) := of_decide_eq_true (by first | (with_reducible assumption) | assumption)
       have q101 : x7_1 < (l0.length : Int) := of_decide_eq_true (by first | (with_reducible assumption) | assumption)
       obtain ⟨ad101, e101, hx101_0⟩ := Kd.at_int HR0.out x7_1 p101 q101
       cases e101
       replace p101 := eq_true p101
       replace q101 := eq_true q101
       have p102 : 0 ≤ (x7_1 : Int) := of_decide_eq_true (by first | (with_reducible assumption) | assumption)
       have q102 : x7_1 < (l0.length : Int) := of_decide_eq_true (by first | (with_reducible assumption) | assumption)
       obtain ⟨ad102, e102, hx102_0⟩ := Kd.at_int HR0.out x7_1 p102 q102
       obtain rfl : ad101 = ad102 := (by injection e102)
       replace p102 := eq_true p102
       replace q102 := eq_true q102
       go_wp2
       go_ret
       exact ⟨by first | rfl | (simp; done) | (simp [*]; done), by repeat (first | exact Drawn0.refl _ | apply Drawn0.step)⟩
      ·rw [if_neg c7] at H
       have c7b0 : decide (a2 < (rd l0 x7_1)) = false := decide_eq_false c7
       clear c7
       have H' := Aside0.mk H
       clear H
       have p101 : 0 ≤ (x7_1 : Int) := of_decide_eq_true (by first | (with_reducible assumption) | assumption)
       have q101 : x7_1 < (l0.length : Int) := of_decide_eq_true (by first | (with_reducible assumption) | assumption)
       obtain ⟨ad101, e101, hx101_0⟩ := Kd.at_int HR0.out x7_1 p101 q101
       cases e101
       replace p101 := eq_true p101
       replace q101 := eq_true q101
       have p102 : 0 ≤ (x7_1 : Int) := of_decide_eq_true (by first | (with_reducible assumption) | assumption)
       have q102 : x7_1 < (l0.length : Int) := of_decide_eq_true (by first | (with_reducible assumption) | assumption)
       obtain ⟨ad102, e102, hx102_0⟩ := Kd.at_int HR0.out x7_1 p102 q102
       obtain rfl : ad101 = ad102 := (by injection e102)
       replace p102 := eq_true p102
       replace q102 := eq_true q102
       go_wp2
       go_roundg k1
       case measure => have := HK1.out; omega
       case rel => exact ⟨(wrap64 (x7_1 + 1)), (by first | rfl | (simp; done) | (simp only [i64_w]; done) | (simp [*]; done)), H', ⟨by have := HK1.out; omega⟩, by repeat (first | exact Drawn0.refl _ | apply Drawn0.step)⟩
    ·rw [if_neg c5] at H
     exact absurd H (by simp)
   ·rw [if_neg c4] at H
    have c4b0 : decide (x7_1 < (l0.length : Int)) = false := decide_eq_false c4
    clear c4
    obtain rfl := Option.some.inj H
    go_wp2
    go_ret
    exact ⟨by first | rfl | (simp; done) | (simp [*]; done), by repeat (first | exact Drawn0.refl _ | apply Drawn0.step)⟩

/-! ### earshotref02_Round: function 83 -/
def earshotref02_Round.f : Nat → Int → Int → Option (Int)
 | 0, _, _ => none
 | k + 1, a0, a1 => if a0 < 0 then ((earshotref02_Round.f k (wrap64 (-a0)) a1).bind fun t101 => (some (wrap64 (-t101)))) else (if (wrap64 (2 * a1)) = 0 then (none) else (some (wrap64 (Int.tdiv (wrap64 ((wrap64 (2 * a0)) + a1)) (wrap64 (2 * a1))))))
theorem earshotref02_Round.mono_l : ∀ k, (∀ y0 y1, LeO (earshotref02_Round.f k y0 y1) (earshotref02_Round.f (k + 1) y0 y1))
 | 0 => fun _ _ r h => by simp [earshotref02_Round.f] at h
 | k + 1 => by
  have ih0 := earshotref02_Round.mono_l k
  ·intro y0 y1
   unfold earshotref02_Round.f
   repeat' first
   | (with_reducible exact ih0 _ _)
   | (with_reducible exact LeO.refl _)
   | (with_reducible exact LeO.none _)
   | (with_reducible refine LeO.ite ?_ ?_)
   | (with_reducible refine LeO.bind ?_ (fun _ => ?_))
   | exact ih0 _ _
   | exact LeO.none _
   | refine LeO.ite ?_ ?_
   | refine LeO.bind ?_ (fun _ => ?_)
theorem earshotref02_Round.mono : ∀ a0 a1 k, LeO (earshotref02_Round.f k a0 a1) (earshotref02_Round.f (k + 1) a0 a1) := by
 intro a0 a1 k
 have ih0 := earshotref02_Round.mono_l k
 exact ih0 a0 a1
set_option maxHeartbeats 8000000 in
set_option maxRecDepth 100000 in
theorem earshotref02_Round.calls (k : Nat) : ∀ (a0 : Int) (a1 : Int) (r : Int) (w : World) (h : earshotref02_Round.f k a0 a1 = some r),
  Calls Tryd.prog 83 #[.int .i64 a0, .int .i64 a1] w fun e w' => e = .returned (.int .i64 r) ∧ Drawn0 w w' := by
 induction k using Nat.strongRecOn with
 | _ k ih =>
 intro a0 a1 r w h
 cases k with
 | zero => exact absurd h (by simp [earshotref02_Round.f])
 | succ k =>
 simp only [earshotref02_Round.f] at h
 have H : (if a0 < 0 then ((earshotref02_Round.f k (wrap64 (-a0)) a1).bind fun t101 => (some (wrap64 (-t101)))) else (if (wrap64 (2 * a1)) = 0 then (none) else (some (wrap64 (Int.tdiv (wrap64 ((wrap64 (2 * a0)) + a1)) (wrap64 (2 * a1))))))) = some r := h
 clear h
 by_cases c3 : a0 < 0
 ·rw [if_pos c3] at H
  have c3b0 : decide (a0 < 0) = true := decide_eq_true c3
  clear c3
  replace H := Option.bind_eq_some_iff.mp H
  obtain ⟨t101, A40, H⟩ := H
  replace H : (some (wrap64 (-t101))) = some r := H
  have A4 := Aside0.mk A40
  clear A40
  obtain rfl := Option.some.inj H
  go_enter Tryd.func83, Tryd.ntmps83
  go_wp2_with (first | ((with_reducible refine gate_callee (f := 83) rfl ?_); refine goesL_ (some 10) rfl rfl Tryd.func83 (by kernel_rfl) rfl #[.int .i64 (wrap64 (-a0)), .int .i64 a1] rfl (by (try simp only [List.map_toArray, List.map_cons, List.map_nil]); first | done | rfl | (simp only [List.length_drop, List.length_take]; rfl)) ?_; (with_reducible refine (ih k (by omega) (wrap64 (-a0)) a1 t101 _ A4.out).mono ?_); rintro e w' ⟨rfl, ⟨nd, rfl⟩⟩; refine ⟨_, rfl, ?_⟩))
  go_ret
  exact ⟨by first | rfl | (simp; done) | (simp [*]; done), by repeat (first | exact Drawn0.refl _ | apply Drawn0.step)⟩
 ·rw [if_neg c3] at H
  have c3b0 : decide (a0 < 0) = false := decide_eq_false c3
  clear c3
  by_cases c5 : (wrap64 (2 * a1)) = 0
  ·rw [if_pos c5] at H
   exact absurd H (by simp)
  ·rw [if_neg c5] at H
   have c5b0 : ((wrap64 (2 * a1)) == 0) = false := beq_eq_false_iff_ne.mpr c5
   have c5b1 : ((wrap64 (2 * a1)) != 0) = true := bne_iff_ne.mpr c5
   obtain rfl := Option.some.inj H
   go_enter Tryd.func83, Tryd.ntmps83
   go_wp2
   go_ret
   exact ⟨by first | rfl | (simp; done) | (simp [*]; done), by repeat (first | exact Drawn0.refl _ | apply Drawn0.step)⟩

end Go.Proofs.YtdlbmbijobcljaaDoor.X

namespace Go.Proofs.YtdlbmbijobcljaaDoor.Pure
open Go.RowKit Go.Proofs.YtdlbmbijobcljaaDoor.X Go.Proofs.YtdlbmbijobcljaaDoorW.PrintWords Go.Proofs.YtdlbmbijobcljaaDoorW.PrintLast
set_option linter.unusedVariables false
set_option linter.unusedSimpArgs false
theorem w64 {n : Int} (h0 : -9223372036854775808 ≤ n) (h1 : n ≤ 9223372036854775807) : wrap64 n = n := by unfold wrap64; omega
/-- The nearest integer of x/d, halves away from zero. -/
def rnd (x d : Int) : Int := if x < 0 then -((2 * (-x) + d) / (2 * d)) else (2 * x + d) / (2 * d)
theorem rnd_abs_le (x d b : Int) (hd : 0 < d) (h0 : -(b * d) ≤ x) (h1 : x ≤ b * d) : -b ≤ rnd x d ∧ rnd x d ≤ b := by
  have key : ∀ y : Int, 0 ≤ y → y ≤ b * d → 0 ≤ (2 * y + d) / (2 * d) ∧ (2 * y + d) / (2 * d) ≤ b := by
    intro y hy hyb
    refine ⟨Int.ediv_nonneg (by omega) (by omega), ?_⟩
    have : (2 * y + d) / (2 * d) < b + 1 := by
      apply Int.ediv_lt_of_lt_mul (by omega)
      have : (b + 1) * (2 * d) = 2 * (b * d) + 2 * d := by rw [Int.add_mul, Int.mul_left_comm]; omega
      omega
    omega
  unfold rnd
  split
  · have := key (-x) (by omega) (by omega)
    omega
  · have := key x (by omega) (by omega)
    omega
theorem round_pos (x d : Int) (hx : 0 ≤ x) (hx1 : x ≤ 4611686018427387903) (hd : 0 < d) (hd1 : d ≤ 1099511627776) (hs : 2 * x + d ≤ 9223372036854775807) (k : Nat) : earshotref02_Round.f (k + 1) x d = some ((2 * x + d) / (2 * d)) := by
  unfold earshotref02_Round.f
  rw [if_neg (by omega), w64 (n := 2 * d) (by omega) (by omega), if_neg (by omega), w64 (n := 2 * x) (by omega) (by omega), w64 (n := 2 * x + d) (by omega) (by omega), Int.tdiv_eq_ediv_of_nonneg (by omega)]
  have h0 : 0 ≤ (2 * x + d) / (2 * d) := Int.ediv_nonneg (by omega) (by omega)
  have h1 : (2 * x + d) / (2 * d) ≤ 2 * x + d := Int.ediv_le_self _ (by omega)
  rw [w64 (by omega) (by omega)]
theorem round_ev (x d : Int) (hx0 : -4611686018427387903 ≤ x) (hx1 : x ≤ 4611686018427387903) (hd : 0 < d) (hd1 : d ≤ 1099511627776) (hs0 : -(2 * x) + d ≤ 9223372036854775807) (hs : 2 * x + d ≤ 9223372036854775807) : Ev (fun k => earshotref02_Round.f k x d) (rnd x d) := by
  refine ⟨2, fun k hk => ?_⟩
  obtain ⟨m, rfl⟩ : ∃ m, k = m + 2 := ⟨k - 2, by omega⟩
  by_cases h : x < 0
  · have h2 : 0 ≤ (2 * (-x) + d) / (2 * d) := Int.ediv_nonneg (by omega) (by omega)
    have h3 : (2 * (-x) + d) / (2 * d) ≤ 2 * (-x) + d := Int.ediv_le_self _ (by omega)
    show earshotref02_Round.f (m + 1 + 1) x d = _
    rw [earshotref02_Round.f, if_pos h, w64 (by omega) (by omega), round_pos (-x) d (by omega) (by omega) hd hd1 (by omega), Option.bind_some, w64 (by omega) (by omega)]
    unfold rnd
    rw [if_pos h]
  · show earshotref02_Round.f (m + 1 + 1) x d = _
    rw [round_pos x d (by omega) hx1 hd hd1 hs]
    unfold rnd
    rw [if_neg h]
theorem far_pos (x d : Int) (hx : 0 ≤ x) (hx1 : x ≤ 4611686018427387903) (hd : 0 < d) (hd1 : d ≤ 1099511627776) (k : Nat) : feature_far.f (k + 1) x d = some ((2 * x + d) / (2 * d)) := by
  rw [feature_far.f, if_neg (by omega), if_neg (by omega), Int.tdiv_eq_ediv_of_nonneg hx, Int.tmod_eq_emod_of_nonneg hx]
  have h0 := Int.emod_nonneg x (by omega : d ≠ 0)
  have h1 := Int.emod_lt_of_pos x hd
  have h2 := Int.mul_ediv_add_emod x d
  have h3 : 0 ≤ x / d := Int.ediv_nonneg hx (by omega)
  have h4 : x / d ≤ x := Int.ediv_le_self _ hx
  rw [w64 (n := d - x % d) (by omega) (by omega)]
  have e : 2 * x + d = (2 * (x % d) + d) + (x / d) * (2 * d) := by
    have : (x / d) * (2 * d) = 2 * (d * (x / d)) := by rw [Int.mul_left_comm, Int.mul_comm (x / d) d]
    omega
  have e2 : (2 * x + d) / (2 * d) = (2 * (x % d) + d) / (2 * d) + x / d := by rw [e, Int.add_mul_ediv_right _ _ (by omega : 2 * d ≠ 0)]
  by_cases hc : x % d ≥ d - x % d
  · rw [if_pos hc, w64 (n := x / d) (by omega) (by omega), w64 (n := x / d + 1) (by omega) (by omega), e2]
    have : (2 * (x % d) + d) / (2 * d) = 1 := by
      have a1 : 1 ≤ (2 * (x % d) + d) / (2 * d) := by rw [Int.le_ediv_iff_mul_le (by omega)]; omega
      have a2 : (2 * (x % d) + d) / (2 * d) < 2 := Int.ediv_lt_of_lt_mul (by omega) (by omega)
      omega
    rw [this, Int.add_comm]
  · rw [if_neg hc, w64 (n := x / d) (by omega) (by omega), e2, (Int.ediv_eq_zero_of_lt (by omega) (by omega) : (2 * (x % d) + d) / (2 * d) = 0), Int.zero_add]
theorem far_ev (x d : Int) (hx0 : -4611686018427387903 ≤ x) (hx1 : x ≤ 4611686018427387903) (hd : 0 < d) (hd1 : d ≤ 1099511627776) : Ev (fun k => feature_far.f k x d) (rnd x d) := by
  refine ⟨2, fun k hk => ?_⟩
  obtain ⟨m, rfl⟩ : ∃ m, k = m + 2 := ⟨k - 2, by omega⟩
  by_cases h : x < 0
  · have h2 : 0 ≤ (2 * (-x) + d) / (2 * d) := Int.ediv_nonneg (by omega) (by omega)
    have h3 : (2 * (-x) + d) / (2 * d) ≤ (-x) := by
      have : (2 * (-x) + d) / (2 * d) < (-x) + 1 := by
        apply Int.ediv_lt_of_lt_mul (by omega)
        have e : (-x + 1) * (2 * d) = 2 * ((-x) * d) + 2 * d := by rw [Int.add_mul, Int.mul_left_comm]; omega
        have : (-x) * 1 ≤ (-x) * d := Int.mul_le_mul_of_nonneg_left (by omega) (by omega)
        omega
      omega
    show feature_far.f (m + 1 + 1) x d = _
    rw [feature_far.f, if_pos h, w64 (by omega) (by omega), far_pos (-x) d (by omega) (by omega) hd hd1, Option.bind_some, w64 (by omega) (by omega)]
    unfold rnd
    rw [if_pos h]
  · show feature_far.f (m + 1 + 1) x d = _
    rw [far_pos x d (by omega) hx1 hd hd1]
    unfold rnd
    rw [if_neg h]
/-- Is it a length of a transform? -/
def isLen (n : Nat) : Bool := n == 1 || n == 2 || n == 4 || n == 8 || n == 16 || n == 32 || n == 64
theorem possible_small : ∀ n : Nat, n < 200 → feature_possible.f (n : Int) = some (isLen n) := by decide +kernel
theorem length_small : ∀ n : Nat, n < 200 → earshotref03_Length.f (n : Int) = some (isLen n) := by decide +kernel
theorem possible_at (n : Nat) : feature_possible.f (n : Int) = some (isLen n) := by
  by_cases h : n < 200
  · exact possible_small n h
  · unfold feature_possible.f
    rw [if_pos (by omega), if_neg (by omega)]
    have : isLen n = false := by simp only [isLen, Bool.or_eq_false_iff, beq_eq_false_iff_ne]; omega
    rw [this]
theorem length_at (n : Nat) : earshotref03_Length.f (n : Int) = some (isLen n) := by
  by_cases h : n < 200
  · exact length_small n h
  · unfold earshotref03_Length.f
    rw [if_neg (by omega), if_neg (by omega), if_neg (by omega), if_neg (by omega), if_neg (by omega), if_neg (by omega)]
    have : isLen n = false := by simp only [isLen, Bool.or_eq_false_iff, beq_eq_false_iff_ne]; omega
    have e : ((n : Int) == 64) = false := by simp only [beq_eq_false_iff_ne]; omega
    rw [this, e]
theorem isLen_dvd (n : Nat) (h : isLen n = true) : 0 < n ∧ n ≤ 64 ∧ (n : Int) * ((64 : Int) / n) = 64 ∧ 1 ≤ (64 : Int) / n ∧ (64 : Int) / n ≤ 64 := by
  simp only [isLen, Bool.or_eq_true, beq_iff_eq] at h
  rcases h with ((((((h | h) | h) | h) | h) | h) | h) <;> subst h <;> decide
/-- All within bounds. -/
def allIn (l : List Int) (a b : Int) : Bool := l.all fun x => decide (a ≤ x) && decide (x ≤ b)
theorem rd_nat (l : List Int) (j : Nat) : rd l (j : Int) = l.getD j 0 := by unfold rd; rw [Int.toNat_natCast]
theorem all_ev (l : List Int) (a b : Int) (hl : l.length ≤ 4611686018427387904) : Ev (fun k => earshotref02_All.f k l a b) (allIn l a b) := by
  have key : ∀ r j : Nat, j + r = l.length → Ev (fun k => earshotref02_All.l0 k l a b (j : Int)) (allIn (l.drop j) a b) := by
    intro r
    induction r with
    | zero =>
      intro j hj
      refine ⟨1, fun k hk => ?_⟩
      obtain ⟨m, rfl⟩ : ∃ m, k = m + 1 := ⟨k - 1, by omega⟩
      simp only [earshotref02_All.l0]
      rw [if_neg (by omega), List.drop_of_length_le (by omega)]
      rfl
    | succ r ih =>
      intro j hj
      have hjl : j < l.length := by omega
      have e : l.drop j = l[j] :: l.drop (j + 1) := List.drop_eq_getElem_cons hjl
      have er : rd l (j : Int) = l[j] := by rw [rd_nat, List.getD_eq_getElem?_getD, List.getElem?_eq_getElem hjl]; rfl
      obtain ⟨K, hK⟩ := ih (j + 1) (by omega)
      refine ⟨K + 1, fun k hk => ?_⟩
      obtain ⟨m, rfl⟩ : ∃ m, k = m + 1 := ⟨k - 1, by omega⟩
      simp only [earshotref02_All.l0]
      rw [if_pos (by omega), if_pos (by omega), er, e]
      by_cases h1 : l[j] < a
      · rw [if_pos h1]
        simp only [allIn, List.all_cons, (by simpa using h1 : decide (a ≤ l[j]) = false), Bool.false_and]
      · rw [if_neg h1]
        by_cases h2 : l[j] > b
        · rw [if_pos h2]
          simp only [allIn, List.all_cons, (by simpa using h2 : decide (l[j] ≤ b) = false), Bool.and_false, Bool.false_and]
        · rw [if_neg h2, w64 (by omega) (by omega)]
          have : earshotref02_All.l0 m l a b ((j + 1 : Nat) : Int) = some (allIn (l.drop (j + 1)) a b) := hK m (by omega)
          rw [show (j : Int) + 1 = ((j + 1 : Nat) : Int) by omega, this]
          simp only [allIn, List.all_cons, (by simp; omega : decide (a ≤ l[j]) = true), (by simp; omega : decide (l[j] ≤ b) = true), Bool.true_and]
  exact key l.length 0 (by omega)
theorem within_at (l : List Int) (b : Int) (h0 : 0 ≤ b) (h1 : b ≤ 9223372036854775807) : feature_within.f l b = some (allIn l (-b) b) := by
  unfold feature_within.f allIn
  congr 1
  rw [List.not_any_eq_all_not]
  congr 1
  funext x
  unfold beyond
  rw [w64 (by omega) (by omega)]
  by_cases h1 : x < -b <;> by_cases h2 : b < x <;> simp [h1, h2] <;> omega
theorem same_ev (l m : List Int) (hlm : l = m) (hl : l.length ≤ 4611686018427387904) : Ev (fun k => earshotref02_Same.f k l m) true := by
  subst hlm
  have key : ∀ r j : Nat, j + r = l.length → Ev (fun k => earshotref02_Same.l0 k l l (j : Int)) true := by
    intro r
    induction r with
    | zero =>
      intro j hj
      refine ⟨1, fun k hk => ?_⟩
      obtain ⟨m, rfl⟩ : ∃ m, k = m + 1 := ⟨k - 1, by omega⟩
      simp only [earshotref02_Same.l0]
      rw [if_neg (by omega)]
    | succ r ih =>
      intro j hj
      obtain ⟨K, hK⟩ := ih (j + 1) (by omega)
      refine ⟨K + 1, fun k hk => ?_⟩
      obtain ⟨m, rfl⟩ : ∃ m, k = m + 1 := ⟨k - 1, by omega⟩
      simp only [earshotref02_Same.l0]
      rw [if_pos (by omega), if_pos (by omega), if_pos (by omega), if_pos trivial, w64 (by omega) (by omega), show (j : Int) + 1 = ((j + 1 : Nat) : Int) by omega]
      exact hK m (by omega)
  refine Ev.congr (fun k => ?_) (key l.length 0 (by omega))
  unfold earshotref02_Same.f
  rw [if_pos rfl]
  rfl
theorem cosv_range (j : Int) : -16384 ≤ cosv j ∧ cosv j ≤ 16384 := by
  unfold cosv
  have a := tab_range (j % 256); have b := tab_range (128 - j % 256); have c := tab_range (j % 256 - 128); have d := tab_range (256 - j % 256)
  split
  · omega
  · split
    · omega
    · split <;> omega
end Go.Proofs.YtdlbmbijobcljaaDoor.Pure

namespace Go.Proofs.YtdlbmbijobcljaaDoor.Pure
open Go.RowKit Go.Proofs.YtdlbmbijobcljaaDoor.X Go.Proofs.YtdlbmbijobcljaaDoorW.PrintWords Go.Proofs.YtdlbmbijobcljaaDoorW.PrintLast
theorem known_ev : Ev (fun k => earshotlaw03_known.f k) true := Ev.of (k := 2000) earshotlaw03_known.mono (by decide +kernel)
end Go.Proofs.YtdlbmbijobcljaaDoor.Pure

namespace Go.Proofs.YtdlbmbijobcljaaDoor.Pure
open Go.RowKit Go.Proofs.YtdlbmbijobcljaaDoor.X Go.Proofs.YtdlbmbijobcljaaDoorW.PrintWords Go.Proofs.YtdlbmbijobcljaaDoorW.PrintLast
set_option linter.unusedVariables false
set_option linter.unusedSimpArgs false
def tabOK (K m : Nat) : Bool :=
  match earshotlaw03_cosine.f K (m : Int) with
  | some (lo, hi) => decide ((2 * cosv (m : Int) - 1) * 32768 ≤ hi) && decide (lo ≤ (2 * cosv (m : Int) + 1) * 32768) && (cosv (256 - (m : Int)) == cosv (m : Int))
  | none => false
theorem tab_ok : ∀ m : Nat, m < 256 → tabOK 400 m = true := by decide +kernel
theorem cosv_mod (a : Int) : cosv (a % 256) = cosv a := by
  unfold cosv
  rw [Int.emod_emod_of_dvd a (by decide : (256 : Int) ∣ 256)]
theorem Cosine_neg (a : Int) (h : a < 0) : feature_Cosine.f a = some (0, 2) := by unfold feature_Cosine.f; rw [if_pos h]
theorem Cosine_at (a : Int) (h : 0 ≤ a) : feature_Cosine.f a = some (cosv a, 0) := by unfold feature_Cosine.f feature_cosine.f; rw [if_neg (by omega), if_pos h]; rfl
theorem table_ev (a : Int) (hw : -9223372036854775808 ≤ a ∧ a ≤ 9223372036854775807) : Ev (fun k => earshotlaw03_FeatureTable.f k a) true := by
  by_cases h : a < 0
  · refine Ev.congr (fun k => ?_) (Ev.bind known_ev (Ev.now true))
    unfold earshotlaw03_FeatureTable.f
    rw [Cosine_neg a h, Option.bind_some, if_pos h]
    rfl
  · have hm0 := Int.emod_nonneg a (by decide : (256 : Int) ≠ 0)
    have hm1 := Int.emod_lt_of_pos a (by decide : (0 : Int) < 256)
    have hok := tab_ok (a % 256).toNat (by omega)
    unfold tabOK at hok
    rw [Int.toNat_of_nonneg hm0] at hok
    cases hc : earshotlaw03_cosine.f 400 (a % 256) with
    | none => rw [hc] at hok; cases hok
    | some p =>
      obtain ⟨lo, hi⟩ := p
      rw [hc] at hok
      simp only [Bool.and_eq_true, decide_eq_true_eq, beq_iff_eq] at hok
      obtain ⟨⟨h1, h2⟩, h3⟩ := hok
      rw [cosv_mod] at h1 h2 h3
      have hev : Ev (fun k => earshotlaw03_cosine.f k (a % 256)) (lo, hi) := Ev.of (earshotlaw03_cosine.mono _) hc
      have hr := cosv_range a
      have e1 : Ev (fun k => earshotlaw03_FeatureTable.j1 k (cosv a) (a % 256) false) true := by
        refine Ev.step (f := fun k => (earshotlaw03_cosine.f k (a % 256)).bind fun bt107 => (if (wrap64 ((wrap64 ((wrap64 (2 * cosv a)) - 1)) * 32768)) ≤ bt107.2 then (if bt107.1 ≤ (wrap64 ((wrap64 ((wrap64 (2 * cosv a)) + 1)) * 32768)) then ((earshotlaw03_known.f k).bind fun t109 => (some t109)) else (some false)) else (some false))) (fun k => ?_) (Ev.bind hev ?_)
        · simp only [earshotlaw03_FeatureTable.j1]
          rw [if_neg (by simp)]
        · refine Ev.congr (fun k => ?_) (Ev.bind known_ev (Ev.now true))
          rw [w64 (n := 2 * cosv a) (by omega) (by omega), w64 (n := 2 * cosv a - 1) (by omega) (by omega), w64 (n := 2 * cosv a + 1) (by omega) (by omega), w64 (n := (2 * cosv a - 1) * 32768) (by omega) (by omega), w64 (n := (2 * cosv a + 1) * 32768) (by omega) (by omega), if_pos h1, if_pos h2]
      have e0 : Ev (fun k => earshotlaw03_FeatureTable.j0 k a (cosv a) false) true := by
        refine Ev.step (fun k => ?_) e1
        simp only [earshotlaw03_FeatureTable.j0]
        rw [if_neg (by simp), Int.tmod_eq_emod_of_nonneg (by omega : 0 ≤ a), w64 (n := 256 - a % 256) (by omega) (by omega), Cosine_at _ (by omega), Option.bind_some, if_pos rfl, h3]
        simp
      refine Ev.congr (fun k => ?_) e0
      unfold earshotlaw03_FeatureTable.f
      rw [Cosine_at a (by omega), Option.bind_some, if_neg h, if_pos rfl]
      unfold earshotref03_C.f
      rw [if_pos (by omega), Option.bind_some]
      simp
theorem FeatureTable : earshotlaw03_FeatureTable.Pure := fun a0 hw => (table_ev a0 (by simp only [Lit.wf, IntKind.min, IntKind.max, IntKind.signed, IntKind.bits, Bool.and_eq_true, decide_eq_true_eq, if_true] at hw; omega)).rounds
end Go.Proofs.YtdlbmbijobcljaaDoor.Pure

namespace Go.Proofs.YtdlbmbijobcljaaDoor.featureTable
open Go.ChangeShapes Go.WideShapes Go.ChangeAt Go.RowKit
open Go.ChangeMaps (open_string shut_string)
set_option linter.unusedVariables false
theorem own : ownKnob Tryd.prog.godebug = none := by kernel_rfl
set_option maxRecDepth 100000 in
theorem lifted (os : Os) (started : os.Started) (H : Type) (enc : TypeId × Value → H) :
    ReturnsInHanded {} Tryd.checked os 11 .any (fun w args => (Rows.featureTableSpec.pre enc Tryd.prog Tryd.f11 Rows.featureTableRow.domain false w args ∧ laidMetH Tryd.prog laidC w) ∧ sizedMet enc Tryd.prog Tryd.f11 (OpenSpec.ofChange Rows.featureTableSpec) false w args) (Rows.featureTableSpec.post enc Tryd.prog Tryd.f11 false true false false) := by
  refine returnsInHanded_of_change_and (C := Tryd.checked) (X := fun w _ => laidMetH Tryd.prog laidC w) (fun _ _ _ hh h => h.of_heap hh) own started (by kernel_rfl) Tryd.func11
    (ChangeSpec.witness_shaped (enc := enc) (C := Tryd.checked) (os := os) (X := fun w _ => laidMetH Tryd.prog laidC w) false (World.doorLaid Tryd.prog 4000 os) #[.int .i64 0] 8 rfl (World.shaped_of_RefB (by kernel_rfl) (by kernel_rfl)) (by kernel_rfl) (by kernel_rfl) (by kernel_rfl) (door_met os _)) ?_
  intro W base args ds gs before hval0 hW hcnd hsz0 hL _
  have ht := tab_of_laid hL
  have hsz : (DataW.weightsEach Tryd.prog (Tryd.f11.params.toList ++ Rows.featureTableSpec.plain.varTypes Tryd.prog) (ds ++ gs)).all (· ≤ reachBytes) = true := hsz0
  have hval : ∀ (j : Nat) t v, Tryd.f11.params[j]? = some t → args[j]? = some v → Value.okWide Tryd.prog W .any base t v := hval0
  have hW' := hW
  obtain ⟨p, q, hA0, hV, rfl, hfz, hnd⟩ := hW
  have hA : DataW.TrodAll enc Tryd.prog W 0 (fun _ => true) true Tryd.f11.params.toList args.toList ds p := hA0
  rw [Tryd.params11] at hA hval hsz
  obtain ⟨v0, vs0, d0, ds0, p0, q0, hargs, rfl, rfl, h0, r0⟩ := trodAll_cons hA
  obtain ⟨rfl, rfl, rfl⟩ := trodAll_nil r0
  obtain rfl : args = #[v0] := by cases args; simp_all
  obtain ⟨rfl, rfl⟩ := trodVars_none hV
  obtain ⟨a0, rfl, rfl, rfl, w0⟩ := open_int Tryd.underlying3 (hval 0 3 v0 rfl rfl) h0
  clear hA0 hval0 hsz0 hsz
  refine (X.earshotlaw03_FeatureTable.walk Pure.FeatureTable a0 W ht w0).mono fun e W' ⟨he, bel⟩ => ?_
  subst he
  exact ⟨_, rfl, _, _, _, [], _, [], hW', trodAll_mk1 (shut_bool Tryd.underlying4 _), (trodAll_cons_mk (shut_int Tryd.underlying3 w0) trodAll_mk0), rfl, bel.frame _, fun h => by cases h⟩
theorem closed : joinedFacts Tryd.prog 11 Tryd.f11 Rows.featureTableSpec Rows.featureTableRow = true :=
  joined_of rfl rfl rfl (by kernel_rfl) (by kernel_rfl) (by kernel_rfl) (by kernel_rfl) (by kernel_rfl) (by kernel_rfl) (by kernel_rfl) (by kernel_rfl) (by kernel_rfl) (by kernel_rfl) (by kernel_rfl) (by kernel_rfl) (by kernel_rfl) (by kernel_rfl) (by kernel_rfl) (by kernel_rfl) (by kernel_rfl) (by kernel_rfl) (by kernel_rfl) (by kernel_rfl) (by kernel_rfl) (by kernel_rfl) (by kernel_rfl)
theorem over : Rows.featureTableRow.holds Tryd.pinned (OpenSpec.ofChange Rows.featureTableSpec) :=
  OpenClaim.holds_of_wide 11 Tryd.f11 rfl rfl rfl rfl rfl rfl rfl ⟨rfl, rfl, rfl, rfl, rfl⟩ rfl rfl rfl rfl rfl (by kernel_rfl) Tryd.func11 closed
    (of_decide_eq_true (by kernel_rfl)) (by unfold Func.isWrapper; first | (rw [if_pos (by decide +kernel)]; kernel_rfl) | (rw [if_neg (by decide +kernel)]; exact ⟨rfl, rfl⟩))
    (fun os started H enc _ => lifted os started H enc)
theorem proved : Rows.FeatureTableSaid := over
end Go.Proofs.YtdlbmbijobcljaaDoor.featureTable
namespace Go.Proofs.YtdlbmbijobcljaaDoor
/-- The row, under a short name, for the claim. -/
theorem featureTable_holds : Rows.FeatureTableSaid := featureTable.proved
/-- THE TIED CARD. -/
theorem featureTable_card : Rows.FeatureTableCardSaid :=
  Claim7.holds_tied_plain_at .later [] [.data] true (true, "113a42d89db8992b3819bea1327673c10f2f9c06b5576fb37f9626d51ac793bb") false
    featureTable_holds (fun _ h => by cases h) (by kernel_rfl) (fun _ h => by cases h) featureTable_row_tie rfl ⟨rfl, rfl⟩ jMain rfl
    (fun f fn hf hfn => by
      obtain rfl : f = 11 := Option.some.inj ((show Tryd.prog.funcNamed "earshot/earshotlaw03.FeatureTable" = some 11 by kernel_rfl).symm.trans hf) |>.symm
      obtain rfl : fn = Tryd.f11 := (Option.some.inj (Tryd.func11.symm.trans hfn)).symm
      exact ⟨by kernel_rfl, fun j t ht => by
        rw [Tryd.params11] at ht
        have hm : t ∈ [3] := by simpa using Array.mem_of_getElem? ht
        have hall : ([3].all fun u => !Tryd.prog.wantsStandIn u) = true := by kernel_rfl
        exact (show Tryd.prog.wantsStandIn t = false by simpa using List.all_eq_true.1 hall t hm)⟩)
    (by kernel_rfl)
end Go.Proofs.YtdlbmbijobcljaaDoor
