/- Merged by a program of this session's own (wip/print/merge.py): X150, HImproved, X113, X143, X100, X75, HClone, X114, X56, X26, X46, HKnown. No law stands here; conditions: none. -/
import Derived.Test.YtdlbmbijobcljaaDoorMA
import Derived.Deep.DeepMust
import Derived.Lib.SliceRun
-- By a program of this session's own (wip/print), after the kit's print.
namespace Go.Proofs.YtdlbmbijobcljaaDoor.X
open Go.RowKit Go.Proofs.YtdlbmbijobcljaaDoorW.PrintWords Go.Proofs.YtdlbmbijobcljaaDoorW.PrintLast Go.Proofs.YtdlbmbijobcljaaDoorW.PrintMore
attribute [local go_sem] max2_int min2_int max_two min_two max_three min_three max_four min_four   -- for this text's walks alone
set_option linter.unusedVariables false
set_option linter.unusedSimpArgs false

/-! ### feature_mean: function 150 -/
mutual
def feature_mean.l0 : Nat → List (List Int) → List Int → List (List Int) → Int → Int → Option (List Int)
 | 0, _, _, _, _, _ => none
 | k + 1, x0, x3, x12, x13, x14 => if x14 < x13 then (if 0 ≤ x14 then (if x14 < (x12.length : Int) then ((combined_165.f x3 (rd_L2 x12 x14)).bind fun t106 => (feature_mean.l0 k x0 t106 x12 x13 (wrap64 (x14 + 1)))) else (none)) else (none)) else (feature_mean.l1 k x0 x3 (x3.length : Int) 0)
def feature_mean.l1 : Nat → List (List Int) → List Int → Int → Int → Option (List Int)
 | 0, _, _, _, _ => none
 | k + 1, x0, x3, x23, x24 => if x24 < x23 then (if 0 ≤ x24 then (if x24 < (x3.length : Int) then ((feature_rounded.f k (rd x3 x24) (x0.length : Int)).bind fun t110 => (feature_mean.l1 k x0 (x3.set (x24 : Int).toNat t110) x23 (wrap64 (x24 + 1)))) else (none)) else (none)) else (some x3)
end
def feature_mean.f (k : Nat) (l0 : List (List Int)) : Option (List Int) := if 0 < (l0.length : Int) then (if 0 ≤ ((rd_L2 l0 0).length : Int) then (if (((rd_L2 l0 0).length : Int) : Int).toNat ≤ 35184372088832 then (feature_mean.l0 k l0 (List.replicate (((rd_L2 l0 0).length : Int) : Int).toNat 0) l0 (l0.length : Int) 0) else (none)) else (none)) else (none)
theorem feature_mean.mono_l : ∀ k, (∀ y0 y1 y2 y3 y4, LeO (feature_mean.l0 k y0 y1 y2 y3 y4) (feature_mean.l0 (k + 1) y0 y1 y2 y3 y4)) ∧ (∀ y0 y1 y2 y3, LeO (feature_mean.l1 k y0 y1 y2 y3) (feature_mean.l1 (k + 1) y0 y1 y2 y3))
 | 0 => ⟨fun _ _ _ _ _ r h => by simp [feature_mean.l0] at h, fun _ _ _ _ r h => by simp [feature_mean.l1] at h⟩
 | k + 1 => by
  obtain ⟨ih0, ih1⟩ := feature_mean.mono_l k
  refine ⟨?_, ?_⟩
  ·intro y0 y1 y2 y3 y4
   unfold feature_mean.l0
   repeat' first
   | (with_reducible exact ih0 _ _ _ _ _)
   | (with_reducible exact ih1 _ _ _ _)
   | (with_reducible exact feature_rounded.mono _ _ _)
   | (with_reducible exact LeO.refl _)
   | (with_reducible exact LeO.none _)
   | (with_reducible refine LeO.ite ?_ ?_)
   | (with_reducible refine LeO.bind ?_ (fun _ => ?_))
   | exact ih0 _ _ _ _ _
   | exact ih1 _ _ _ _
   | exact feature_rounded.mono _ _ _
   | exact LeO.none _
   | refine LeO.ite ?_ ?_
   | refine LeO.bind ?_ (fun _ => ?_)
  ·intro y0 y1 y2 y3
   unfold feature_mean.l1
   repeat' first
   | (with_reducible exact ih0 _ _ _ _ _)
   | (with_reducible exact ih1 _ _ _ _)
   | (with_reducible exact feature_rounded.mono _ _ _)
   | (with_reducible exact LeO.refl _)
   | (with_reducible exact LeO.none _)
   | (with_reducible refine LeO.ite ?_ ?_)
   | (with_reducible refine LeO.bind ?_ (fun _ => ?_))
   | exact ih0 _ _ _ _ _
   | exact ih1 _ _ _ _
   | exact feature_rounded.mono _ _ _
   | exact LeO.none _
   | refine LeO.ite ?_ ?_
   | refine LeO.bind ?_ (fun _ => ?_)
theorem feature_mean.mono : ∀ a0 k, LeO (feature_mean.f k a0) (feature_mean.f (k + 1) a0) := by
 intro a0 k
 obtain ⟨ih0, ih1⟩ := feature_mean.mono_l k
 unfold feature_mean.f
 repeat' first
   | (with_reducible exact ih0 _ _ _ _ _)
   | (with_reducible exact ih1 _ _ _ _)
   | (with_reducible exact feature_rounded.mono _ _ _)
   | (with_reducible exact LeO.refl _)
   | (with_reducible exact LeO.none _)
   | (with_reducible refine LeO.ite ?_ ?_)
   | (with_reducible refine LeO.bind ?_ (fun _ => ?_))
   | exact ih0 _ _ _ _ _
   | exact ih1 _ _ _ _
   | exact feature_rounded.mono _ _ _
   | exact LeO.none _
   | refine LeO.ite ?_ ?_
   | refine LeO.bind ?_ (fun _ => ?_)
set_option maxHeartbeats 8000000 in
set_option maxRecDepth 100000 in
theorem feature_mean.calls (k : Nat) (A0 : Option Addr) (c0 : Nat) (l0 : List (List Int)) (r : List Int) (w : World) (hr0 : Kd.C (Kd.slice 3 (Kd.int .i64)) w A0 l0.length l0) (hc0 : l0.length ≤ c0) (h : feature_mean.f k l0 = some r) :
  Calls Tryd.prog 150 #[.slice A0 l0.length c0] w fun e w' => ∃ v0_ : Value, e = .returned (v0_) ∧ Kd.R (Kd.int .i64) 3 w' w.heap.size (fun _ => True) v0_ r ∧ Below w.heap.size w w' := by
 have HR0 := Aside0.mk hr0
 have HC0 := Aside0.mk hc0
 clear hr0 hc0
 have HB := Aside0.mk (Below.refl w.heap.size w)
 have H : (if 0 < (l0.length : Int) then (if 0 ≤ ((rd_L2 l0 0).length : Int) then (if (((rd_L2 l0 0).length : Int) : Int).toNat ≤ 35184372088832 then (feature_mean.l0 k l0 (List.replicate (((rd_L2 l0 0).length : Int) : Int).toNat 0) l0 (l0.length : Int) 0) else (none)) else (none)) else (none)) = some r := h
 clear h
 by_cases c2 : 0 < (l0.length : Int)
 ·rw [if_pos c2] at H
  have c2b0 := decide_eq_true c2
  have c2b1 : decide (0 < l0.length) = true := decide_eq_true (by omega)
  clear c2
  by_cases c3 : 0 ≤ ((rd_L2 l0 0).length : Int)
  ·rw [if_pos c3] at H
   have c3b0 := eq_true c3
   have c3b1 := decide_eq_true c3
   clear c3
   by_cases c4 : (((rd_L2 l0 0).length : Int) : Int).toNat ≤ 35184372088832
   ·rw [if_pos c4] at H
    have c4b0 := eq_true c4
    have c4b1 := decide_eq_true c4
    clear c4
    obtain ⟨y102, hy102⟩ : ∃ y_ : List Int, y_ = (List.replicate (((rd_L2 l0 0).length : Int) : Int).toNat 0) := ⟨_, rfl⟩
    replace H : (feature_mean.l0 k l0 y102 l0 (l0.length : Int) 0) = some r := by first | (rw [hy102]; with_reducible exact H) | (have H2_ := (Option.bind_some _ _).symm.trans H; rw [hy102]; with_reducible exact H2_) | (have H2_ := (Option.bind_some _ _).symm.trans H; with_reducible exact H2_) | with_reducible exact H | (rw [hy102]; exact H) | exact H
    have Ny102 := Aside0.mk hy102
    clear hy102
    have H' := Aside0.mk H
    clear H
    have p101 : 0 ≤ (0 : Int) := (by omega)
    have q101 : 0 < (l0.length : Int) := of_decide_eq_true tA
    obtain ⟨ad101, A101_0, c101_0, e101, hx101_0, hl101_0, hi101_0⟩ := at_L2 HR0.out 0 p101 q101
    cases e101
    have qi101 : (0 < l0.length) = True := eq_true (by omega)
    (try rw [show ((0 : Int)).toNat = 0 from rfl] at hx101_0)
    (try rw [Addr.add_zero'] at hx101_0)
    have HR101_0 := Aside0.mk hi101_0
    have HC101_0 := Aside0.mk hl101_0
    clear hi101_0 hl101_0
    replace p101 := eq_true p101
    replace q101 := eq_true q101
    go_enter Tryd.func150, Tryd.ntmps150
    go_wp2_with (first | ((with_reducible refine gate_dst (N := 11) rfl ?_); refine Kd.R_make (Kd.int .i64) _ 3 rfl (N := 11) rfl 22 _ _ rfl ((rd_L2 l0 0).length : Int) rfl rfl Tryd.underlying22 (.int .i64 0) 8 info3 rfl (by decide) (by omega) 0 (ok := fun _ => True) (okp := fun _ => True) rfl (fun _ hk => hk) trivial (of_decide_eq_true tA) (Nat.le_trans (Nat.mul_le_mul_right _ (of_decide_eq_true tA : ((rd_L2 l0 0).length : Int).toNat ≤ 35184372088832)) (by omega)) (Below.refl _ _) (Nat.le_refl _) ?_; intro v103 w5 ho6 hb hg_ hnew_; clear hg_ hnew_; (first | rw [← Ny102.out] at ho6 | (simp only [Int.reduceToNat] at ho6; rw [← Ny102.out] at ho6)); have HO104 := Aside0.mk (Kd.R_lower ho6 (below_size tB)); replace HB := Aside0.mk (below_step tB hb); clear hb ho6))
    go_loopg [3, 14] k (fun kq v3 v14 w' => ∃ (x3_1 : List Int) (x14_1 : Int), v14 = .int .i64 x14_1 ∧ Aside0 (feature_mean.l0 kq l0 x3_1 l0 (l0.length : Int) x14_1 = some r) ∧ Aside0 (kq ≤ k) ∧ Aside0 (Kd.R (Kd.int .i64) 3 w' w.heap.size (fun _ => True) v3 x3_1) ∧ Aside0 (Below w.heap.size w w'))
    case atStart => exact ⟨(y102), (0), (by first | rfl | (simp; done) | (simp only [i64_w]; done) | (simp [*]; done)), H', ⟨Nat.le_refl _⟩, ⟨tR HO104.out⟩, ⟨tB⟩⟩
    case round =>
     clear H'
     try clear c1
     try clear p1
     try clear q1
     try clear hx1
     try clear qi1
     try clear c2
     try clear c2b0
     try clear c2b1
     try clear p2
     try clear c3
     try clear c3b0
     try clear c3b1
     try clear c4
     try clear c4b0
     try clear c4b1
     try clear hx101_0
     try clear p101
     try clear q101
     obtain ⟨x3_1, x14_1, rfl, HA, HK1, HO_3, HB⟩ := hrel
     cases gk with
     | zero => exact absurd HA.out (by simp [feature_mean.l0])
     | succ k1 =>
      have H := HA.out
      clear HA
      simp only [feature_mean.l0] at H
      by_cases c7 : x14_1 < (l0.length : Int)
      ·rw [if_pos c7] at H
       have c7b0 := decide_eq_true c7
       clear c7
       by_cases c8 : 0 ≤ x14_1
       ·rw [if_pos c8] at H
        have c8b0 := decide_eq_true c8
        clear c8
        by_cases c9 : x14_1 < (l0.length : Int)
        ·rw [if_pos c9] at H
         have c9b0 := decide_eq_true c9
         clear c9
         replace H := Option.bind_eq_some_iff.mp H
         obtain ⟨t106, A100, H⟩ := H
         try dsimp only at H
         have A10 := Aside0.mk A100
         clear A100
         have H' := Aside0.mk H
         clear H
         have p105 : 0 ≤ (x14_1 : Int) := of_decide_eq_true tA
         have q105 : x14_1 < (l0.length : Int) := of_decide_eq_true tA
         obtain ⟨ad105, A105_0, c105_0, e105, hx105_0, hl105_0, hi105_0⟩ := at_L2 HR0.out x14_1 p105 q105
         obtain rfl : ad101 = ad105 := (by injection e105)
         replace hx105_0 := (HB.out.cell (World.block_lt_of_cell? w _ hx105_0)).trans hx105_0
         have HR105_0 := Aside0.mk hi105_0
         have HC105_0 := Aside0.mk hl105_0
         clear hi105_0 hl105_0
         replace p105 := eq_true p105
         replace q105 := eq_true q105
         obtain ⟨Ao11, co11, eo11⟩ := Kd.R_slice HO_3.out
         subst eo11
         go_wp2_with (first | ((with_reducible refine gate_callee (f := 148) rfl ?_); refine goesL_ (some 20) rfl rfl Tryd.func148 (by kernel_rfl) rfl #[.slice Ao11 x3_1.length co11, .slice A105_0 (rd_L2 l0 x14_1).length c105_0, .func (.func 165) #[] #[]] rfl tL ?_; (with_reducible refine (combined_165.calls _ _ x3_1 _ _ (rd_L2 l0 x14_1) t106 _ ?side1 ?side2 ?side3 ?side4 A10.out).mono ?_); (case side1 => exact tC (Kd.R_reads' HO_3.out).2.2); (case side2 => exact (Kd.R_reads' HO_3.out).2.1); (case side3 => exact tC (Kd.C_below HR105_0.out HB.out)); (case side4 => exact HC105_0.out); rintro e w12 ⟨v107, rfl, ho0, hb⟩; refine ⟨_, rfl, ?_⟩; have HO108 := Aside0.mk (Kd.R_lower (Kd.R_new' ho0 (Kd.R_lt (tR HO_3.out))) (below_size tB)); replace HO_3 := Aside0.mk (Kd.R_elder' (tR HO_3.out) (Kd.R_base ho0) hb); replace HB := Aside0.mk (below_step tB hb); (try clear hb); (try clear hb2); (try clear hk); (try clear hi); (try clear ho0)))
         go_roundg k1
         case measure => have := HK1.out; omega
         case rel => exact ⟨(t106), (wrap64 (x14_1 + 1)), (by first | rfl | (simp; done) | (simp only [i64_w]; done) | (simp [*]; done)), H', ⟨by have := HK1.out; omega⟩, ⟨by (with_reducible repeat (first | apply Kd.R_alloc | apply Kd.R_drewN | apply Kd.R_drew)); exact Kd.R_mono HO108.out (fun _ hk => trivial)⟩, ⟨tB⟩⟩
        ·rw [if_neg c9] at H
         exact absurd H (by simp)
       ·rw [if_neg c8] at H
        exact absurd H (by simp)
      ·rw [if_neg c7] at H
       have c7b0 := decide_eq_false c7
       clear c7
       have H' := Aside0.mk H
       clear H
       obtain ⟨Ao13, co13, eo13⟩ := Kd.R_slice HO_3.out
       subst eo13
       go_wp2
       go_loopg [24] k1 (fun kq v24 w' => ∃ (x3_2 : List Int) (x24_2 : Int), v24 = .int .i64 x24_2 ∧ Aside0 (feature_mean.l1 kq l0 x3_2 (x3_1.length : Int) x24_2 = some r) ∧ Aside0 (kq ≤ k1) ∧ Aside0 (Kd.R (Kd.int .i64) 3 w' w.heap.size (fun _ => True) (.slice Ao13 x3_1.length co13) x3_2) ∧ Aside0 (Below w.heap.size w w'))
       case atStart => exact ⟨(x3_1), (0), (by first | rfl | (simp; done) | (simp only [i64_w]; done) | (simp [*]; done)), H', ⟨Nat.le_refl _⟩, ⟨tR HO_3.out⟩, ⟨tB⟩⟩
       case round =>
        clear H'
        try clear c1
        try clear p1
        try clear q1
        try clear hx1
        try clear qi1
        try clear c2
        try clear c2b0
        try clear c2b1
        try clear p2
        try clear c3
        try clear c3b0
        try clear c3b1
        try clear c4
        try clear c4b0
        try clear c4b1
        try clear p6
        try clear c7
        try clear c7b0
        try clear c8
        try clear c8b0
        try clear c9
        try clear c9b0
        try clear c10
        try clear p10
        try clear q10
        try clear hx10
        try clear qi10
        try clear hx101_0
        try clear hx105_0
        try clear p1
        try clear p101
        try clear p105
        try clear p2
        try clear q1
        try clear q101
        try clear q105
        obtain ⟨x3_2, x24_2, rfl, HA, HK2, HO_3, HB⟩ := hrel
        have hl3_2 := (Kd.R_reads' HO_3.out).1
        rw [hl3_2] at HO_3
        (try simp only [hl3_2])
        cases gk with
        | zero => exact absurd HA.out (by simp [feature_mean.l1])
        | succ k2 =>
         have H := HA.out
         clear HA
         simp only [feature_mean.l1] at H
         by_cases c14 : x24_2 < (x3_1.length : Int)
         ·rw [if_pos c14] at H
          have c14b0 := decide_eq_true c14
          (try simp only [hl3_2] at c14b0)
          clear c14
          by_cases c15 : 0 ≤ x24_2
          ·rw [if_pos c15] at H
           have c15b0 := decide_eq_true c15
           clear c15
           by_cases c16 : x24_2 < (x3_2.length : Int)
           ·rw [if_pos c16] at H
            have c16b0 := decide_eq_true c16
            (try simp only [hl3_2] at c16b0)
            clear c16
            replace H := Option.bind_eq_some_iff.mp H
            obtain ⟨t110, A170, H⟩ := H
            try dsimp only at H
            have A17 := Aside0.mk A170
            clear A170
            obtain ⟨y111, hy111⟩ : ∃ y_ : List Int, y_ = (x3_2.set (x24_2 : Int).toNat t110) := ⟨_, rfl⟩
            replace H : (feature_mean.l1 k2 l0 y111 (x3_1.length : Int) (wrap64 (x24_2 + 1))) = some r := by first | (rw [hy111]; with_reducible exact H) | (have H2_ := (Option.bind_some _ _).symm.trans H; rw [hy111]; with_reducible exact H2_) | (have H2_ := (Option.bind_some _ _).symm.trans H; with_reducible exact H2_) | with_reducible exact H | (rw [hy111]; exact H) | exact H
            have Ny111 := Aside0.mk hy111
            clear hy111
            have H' := Aside0.mk H
            clear H
            have p109 : 0 ≤ (x24_2 : Int) := of_decide_eq_true tA
            have q109 : x24_2 < (x3_2.length : Int) := of_decide_eq_true tA
            obtain ⟨ad109, e109, hx109_0⟩ := Kd.at_int (Kd.R_reads' HO_3.out).2.2 x24_2 p109 q109
            cases e109
            replace p109 := eq_true p109
            replace q109 := eq_true q109
            go_wp2_with (first | ((with_reducible refine gate_callee (f := 147) rfl ?_); refine goesL_ (some 35) rfl rfl Tryd.func147 (by kernel_rfl) rfl #[.int .i64 (rd x3_2 x24_2), .int .i64 (l0.length : Int)] rfl tL ?_; (with_reducible refine (feature_rounded.calls k2 (rd x3_2 x24_2) (l0.length : Int) t110 _ A17.out).mono ?_); rintro e w' ⟨rfl, ⟨nd, rfl⟩⟩; refine ⟨_, rfl, ?_⟩; (try (rw [drewN_self wr]; generalize hq_ : World.drewN wr _ = wr; have n0_ : Aside0 (Kd.R (Kd.int .i64) 3 wr w.heap.size (fun _ => True) (.slice (some ad109) x3_2.length co13) x3_2) := ⟨by rw [← hq_]; exact (tR HO_3.out)⟩; have n1_ : Aside0 (Below w.heap.size w wr) := ⟨by rw [← hq_]; exact tB⟩; clear HO_3 HB hq_; have HO_3 := n0_; have HB := n1_; clear n0_ n1_)); have p18 : 0 ≤ (x24_2 : Int) := of_decide_eq_true tA; have q18 : (x24_2 : Int) < ((x3_2.length : Int) : Int) := of_decide_eq_true tA; obtain ⟨go18, co18, eo18, gb18, gl18, cl18, HG18⟩ := Kd.R_form HO_3.out (by omega); (first | cases eo18 | (injection eo18 with ea_ en_ ec_; (first | subst ea_ | (injection ea_ with ea_; subst ea_)); subst ec_; clear en_)); have GB18 := Aside0.mk gb18; have GG18 := Aside0.mk HG18; clear gb18 gl18 HG18; (first | simp only [add_plain] at hx109_0 | skip); obtain ⟨hx18_0, hf18_0⟩ := Kd.R_celln 0 HO_3.out (x24_2 : Int) p18 q18; replace p18 := eq_true p18; replace q18 := eq_true q18; obtain ⟨hy19_, hz19_⟩ := Kd.R_celln 0 HO_3.out (x24_2 : Int) (of_decide_eq_true tA) (of_decide_eq_true tA); have HP19 := Kd.R_putg HO_3.out (x24_2 : Int) t110) | ((with_reducible refine gate_store (t := 3) (p := 36) rfl ?_); refine store_event (t := 3) (p := 36) (v := ?vo_w20) (w1 := (wr.setCell ⟨go18, (x24_2 : Int).toNat, none⟩ (.int .i64 t110))) ?hg ?ho ?hn ?hr ?_; (case ho => rfl); (case hg => rfl); (case hn => rfl); (case hr => first | (go_simp; done) | (go_simp; rfl)); intro w20 hw; have hg : wr.grownBy w20 (some go18) := (by rw [hw]; exact HP19.2); have hp_ : Kd.R (Kd.int .i64) 3 w20 w.heap.size (fun _ => True) (.slice (some ⟨go18, 0, none⟩) x3_2.length co13) y111 := (by rw [hw, Ny111.out]; exact HP19.1); clear HP19; replace HO_3 := Aside0.mk (hp_); replace HB := Aside0.mk ((by rw [hw]; exact below_set (HB.out) GB18.out : Below w.heap.size w w20)); clear hg hw hp_))
            (try simp only [← hl3_2])
            go_roundg k2
            case measure => have := HK1.out; have := HK2.out; omega
            case rel => exact ⟨(y111), (wrap64 (x24_2 + 1)), (by first | rfl | (simp; done) | (simp only [i64_w]; done) | (simp [*]; done)), H', ⟨by have := HK1.out; have := HK2.out; omega⟩, ⟨by (try simp only [hl3_2]); exact tR HO_3.out⟩, ⟨tB⟩⟩
           ·rw [if_neg c16] at H
            exact absurd H (by simp)
          ·rw [if_neg c15] at H
           exact absurd H (by simp)
         ·rw [if_neg c14] at H
          have c14b0 := decide_eq_false c14
          (try simp only [hl3_2] at c14b0)
          clear c14
          obtain rfl := Option.some.inj H
          go_wp2
          go_ret
          exact ⟨_, by first | rfl | (simp [errW_none, errW_some] <;> rfl) | (simp [*, errW_none, errW_some] <;> rfl), tR HO_3.out, tB⟩
   ·rw [if_neg c4] at H
    exact absurd H (by simp)
  ·rw [if_neg c3] at H
   exact absurd H (by simp)
 ·rw [if_neg c2] at H
  exact absurd H (by simp)

end Go.Proofs.YtdlbmbijobcljaaDoor.X

namespace Go.Proofs.YtdlbmbijobcljaaDoor.X
open Go.RowKit Go.Proofs.YtdlbmbijobcljaaDoorW.PrintWords Go.Proofs.YtdlbmbijobcljaaDoorW.PrintLast Go.Proofs.YtdlbmbijobcljaaDoorW.PrintMore
set_option linter.unusedVariables false
set_option linter.unusedSimpArgs false

/-- The numbers of the nearest codewords. -/
def nears (k : Nat) (l1 : List (List Int)) : List (List Int) → Option (List Int)
  | [] => some []
  | x :: xs => (feature_nearest.f k x l1).bind fun r => (nears k l1 xs).bind fun is => some (r.1 :: is)
/-- The vectors whose number is i. -/
def group (l0 : List (List Int)) (is : List Int) (i : Int) : List (List Int) := ((l0.zip is).filter (fun p => p.2 = i)).map (·.1)
/-- What becomes of the codewords from number i on: the mean of the vectors that are nearest, or itself. -/
def improvedAt (k : Nat) (l0 : List (List Int)) (is : List Int) : List (List Int) → Int → Option (List (List Int))
  | [], _ => some []
  | c :: cs, i => (if group l0 is i = [] then some c else feature_mean.f k (group l0 is i)).bind fun m => (improvedAt k l0 is cs (i + 1)).bind fun r => some (m :: r)
def feature_improved.f (k : Nat) (l0 l1 : List (List Int)) : Option (List (List Int)) :=
  if l1.length ≤ 5864062014805 ∧ l0.length ≤ 5864062014805 ∧ ∀ c ∈ l1, c.length ≤ 17592186044416 then
    (nears k l1 l0).bind fun is => if ∀ i ∈ is, 0 ≤ i ∧ i < (l1.length : Int) then improvedAt k l0 is l1 0 else none
  else none
theorem nears_mono (l1 : List (List Int)) (k : Nat) : ∀ xs, LeO (nears k l1 xs) (nears (k + 1) l1 xs) := by
  intro xs
  induction xs with
  | nil => exact LeO.refl _
  | cons x xs ih =>
    simp only [nears]
    exact LeO.bind (feature_nearest.mono _ _ k) (fun m => LeO.bind ih (fun r => LeO.refl _))
theorem improvedAt_mono (l0 : List (List Int)) (is : List Int) (k : Nat) : ∀ cs i, LeO (improvedAt k l0 is cs i) (improvedAt (k + 1) l0 is cs i) := by
  intro cs
  induction cs with
  | nil => intro i; exact LeO.refl _
  | cons c cs ih =>
    intro i
    simp only [improvedAt]
    refine LeO.bind (LeO.ite (LeO.refl _) (feature_mean.mono _ k)) (fun m => LeO.bind (ih (i + 1)) (fun r => LeO.refl _))
theorem feature_improved.mono : ∀ a0 a1 k, LeO (feature_improved.f k a0 a1) (feature_improved.f (k + 1) a0 a1) := by
  intro a0 a1 k
  unfold feature_improved.f
  exact LeO.ite (LeO.bind (nears_mono a1 k a0) (fun is => LeO.ite (improvedAt_mono a0 is k a1 0) (LeO.refl _))) (LeO.refl _)
theorem nears_at (k : Nat) (l1 : List (List Int)) : ∀ (xs : List (List Int)) (is : List Int), nears k l1 xs = some is → is.length = xs.length ∧ ∀ j, j < xs.length → ∃ d, feature_nearest.f k (xs.getD j []) l1 = some (is.getD j 0, d) := by
  intro xs
  induction xs with
  | nil => intro is h; simp only [nears, Option.some.injEq] at h; subst h; exact ⟨rfl, fun j hj => absurd hj (Nat.not_lt_zero _)⟩
  | cons x xs ih =>
    intro is h
    simp only [nears] at h
    obtain ⟨⟨a, d⟩, h1, h⟩ := Option.bind_eq_some_iff.1 h
    obtain ⟨is', h2, h⟩ := Option.bind_eq_some_iff.1 h
    obtain rfl := Option.some.inj h
    obtain ⟨h3, h4⟩ := ih is' h2
    refine ⟨by simp [h3], fun j hj => ?_⟩
    cases j with
    | zero => exact ⟨d, by simpa using h1⟩
    | succ j => simpa using h4 j (by simpa using hj)
theorem improved_at (k : Nat) (l0 : List (List Int)) (is : List Int) : ∀ (cs r : List (List Int)) (s : Int), improvedAt k l0 is cs s = some r → r.length = cs.length ∧ ∀ j, j < cs.length → (group l0 is (s + j) = [] ∧ r.getD j [] = cs.getD j []) ∨ (group l0 is (s + j) ≠ [] ∧ feature_mean.f k (group l0 is (s + j)) = some (r.getD j [])) := by
  intro cs
  induction cs with
  | nil => intro r s h; simp only [improvedAt, Option.some.injEq] at h; subst h; exact ⟨rfl, fun j hj => absurd hj (Nat.not_lt_zero _)⟩
  | cons c cs ih =>
    intro r s h
    simp only [improvedAt] at h
    obtain ⟨m, h1, h⟩ := Option.bind_eq_some_iff.1 h
    obtain ⟨r', h2, h⟩ := Option.bind_eq_some_iff.1 h
    obtain rfl := Option.some.inj h
    obtain ⟨h3, h4⟩ := ih r' (s + 1) h2
    refine ⟨by simp [h3], fun j hj => ?_⟩
    cases j with
    | zero =>
      rw [show s + ((0 : Nat) : Int) = s by omega]
      by_cases hg : group l0 is s = []
      · rw [if_pos hg] at h1
        exact .inl ⟨hg, by simpa using (Option.some.inj h1).symm⟩
      · rw [if_neg hg] at h1
        exact .inr ⟨hg, by simpa using h1⟩
    | succ j =>
      have := h4 j (by simpa using hj)
      rw [show s + 1 + (j : Int) = s + ((j + 1 : Nat) : Int) by omega] at this
      simpa using this
/-- The groups of the first x vectors. -/
def grown (l0 : List (List Int)) (is : List Int) (n x : Nat) : List (List (List Int)) := (List.range n).map fun (i : Nat) => group (l0.take x) (is.take x) (i : Int)
theorem grown_length (l0 : List (List Int)) (is : List Int) (n x : Nat) : (grown l0 is n x).length = n := by simp [grown]
theorem grown_zero (l0 : List (List Int)) (is : List Int) (n : Nat) : grown l0 is n 0 = List.replicate n [] := by
  apply List.ext_getElem?
  intro j
  simp only [grown, group, List.take_zero, List.zip_nil_left, List.filter_nil, List.map_nil, List.getElem?_map, List.getElem?_replicate]
  by_cases hj : j < n
  · rw [List.getElem?_range hj, if_pos hj]; rfl
  · rw [List.getElem?_eq_none (by simpa using hj), if_neg hj]; rfl
theorem grown_getD (l0 : List (List Int)) (is : List Int) (n x i : Nat) (hi : i < n) : (grown l0 is n x).getD i [] = group (l0.take x) (is.take x) (i : Int) := by
  rw [List.getD_eq_getElem?_getD, grown, List.getElem?_map, List.getElem?_range hi]; rfl
theorem group_le (l0 : List (List Int)) (is : List Int) (i : Int) : (group l0 is i).length ≤ l0.length := by
  unfold group
  rw [List.length_map]
  exact Nat.le_trans (List.length_filter_le _ _) (by rw [List.length_zip]; omega)
theorem group_step (l0 : List (List Int)) (is : List Int) (hl : is.length = l0.length) (x : Nat) (hx : x < l0.length) (i : Int) : group (l0.take (x + 1)) (is.take (x + 1)) i = group (l0.take x) (is.take x) i ++ (if is.getD x 0 = i then [l0.getD x []] else []) := by
  have e1 : l0.take (x + 1) = l0.take x ++ [l0.getD x []] := by
    rw [List.take_add_one, List.getElem?_eq_getElem hx, List.getD_eq_getElem?_getD, List.getElem?_eq_getElem hx]; rfl
  have e2 : is.take (x + 1) = is.take x ++ [is.getD x 0] := by
    rw [List.take_add_one, List.getElem?_eq_getElem (by omega : x < is.length), List.getD_eq_getElem?_getD, List.getElem?_eq_getElem (by omega : x < is.length)]; rfl
  rw [e1, e2]
  unfold group
  rw [List.zip_append (by simp [hl]), List.filter_append, List.map_append]
  congr 1
  clear e1 e2
  generalize is.getD x 0 = a
  generalize l0.getD x [] = v
  by_cases h : a = i
  · rw [if_pos h]; simp [h]
  · rw [if_neg h]; simp [h]
theorem grown_step (l0 : List (List Int)) (is : List Int) (hl : is.length = l0.length) (n x : Nat) (hx : x < l0.length) (at_ : Int) (ha : is.getD x 0 = at_) (h0 : 0 ≤ at_) (h1 : at_ < (n : Int)) :
    (grown l0 is n x).set at_.toNat ((grown l0 is n x).getD at_.toNat [] ++ [l0.getD x []]) = grown l0 is n (x + 1) := by
  have hat : at_.toNat < n := by omega
  rw [grown_getD _ _ _ _ _ hat]
  apply List.ext_getElem?
  intro j
  rw [List.getElem?_set, grown_length]
  by_cases hj : at_.toNat = j
  · subst hj
    rw [if_pos rfl, if_pos hat, grown, List.getElem?_map, List.getElem?_range hat]
    simp only [Option.map_some]
    rw [group_step l0 is hl x hx, if_pos (by omega)]
  · rw [if_neg hj]
    by_cases hjn : j < n
    · simp only [grown, List.getElem?_map, List.getElem?_range hjn, Option.map_some]
      rw [group_step l0 is hl x hx, if_neg (by omega), List.append_nil]
    · rw [List.getElem?_eq_none (by simp [grown]; omega), List.getElem?_eq_none (by simp [grown]; omega)]
theorem grown_all (l0 : List (List Int)) (is : List Int) (hl : is.length = l0.length) (n i : Nat) (hi : i < n) : (grown l0 is n l0.length).getD i [] = group l0 is (i : Int) := by
  rw [grown_getD _ _ _ _ _ hi, List.take_length, ← hl, List.take_length]
/-- The first x codewords improved. -/
def outAt (r l1 : List (List Int)) (x : Nat) : List (List Int) := r.take x ++ l1.drop x
theorem outAt_length (r l1 : List (List Int)) (h : r.length = l1.length) (x : Nat) : (outAt r l1 x).length = l1.length := by simp only [outAt, List.length_append, List.length_take, List.length_drop]; omega
theorem outAt_zero (r l1 : List (List Int)) : outAt r l1 0 = l1 := by simp [outAt]
theorem outAt_all (r l1 : List (List Int)) (h : r.length = l1.length) : outAt r l1 l1.length = r := by simp [outAt, ← h]
theorem outAt_step (r l1 : List (List Int)) (h : r.length = l1.length) (x : Nat) (hx : x < l1.length) : (outAt r l1 x).set x (r.getD x []) = outAt r l1 (x + 1) := by
  apply List.ext_getElem?
  intro j
  rw [List.getElem?_set, outAt_length r l1 h]
  simp only [outAt, List.getElem?_append, List.length_take, List.getElem?_drop]
  by_cases hj : x = j
  · subst hj
    rw [if_pos rfl, if_pos hx, if_pos (by omega), List.getElem?_take_of_lt (by omega), List.getD_eq_getElem?_getD, List.getElem?_eq_getElem (by omega : x < r.length)]; rfl
  · rw [if_neg hj]
    by_cases h1 : j < x
    · rw [if_pos (by omega), if_pos (by omega), List.getElem?_take_of_lt (by omega), List.getElem?_take_of_lt (by omega)]
    · rw [if_neg (by omega), if_neg (by omega)]
      congr 1; omega
theorem outAt_same (r l1 : List (List Int)) (h : r.length = l1.length) (x : Nat) (hx : x < l1.length) (he : r.getD x [] = l1.getD x []) : outAt r l1 x = outAt r l1 (x + 1) := by
  rw [← outAt_step r l1 h x hx, he]
  apply List.ext_getElem?
  intro j
  rw [List.getElem?_set, outAt_length r l1 h]
  by_cases hj : x = j
  · subst hj
    rw [if_pos rfl, if_pos hx]
    simp only [outAt, List.getElem?_append, List.length_take, List.getElem?_drop]
    rw [if_neg (by omega), List.getD_eq_getElem?_getD, (by omega : x + (x - min x r.length) = x), List.getElem?_eq_getElem hx]; rfl
  · rw [if_neg hj]
theorem info42_ : (Tryd.prog.info? 42).map (fun i => (i.zero, i.size, i.bytes)) = some (some (.slice none 0 0), 1, 24) := by kernel_rfl
theorem S_form3 {w0 : World} {e : Nat} {w : World} {base m : Nat} {ok : Nat → Prop} {v : Value} {xs : List (List (List Int))} (h : Kd.S (Kd.slice 22 (lent w0)) e w base ok v xs) (hb : ∃ b, v.ownBlock = some b ∧ m ≤ b) : ∃ g c, v = .slice (some ⟨g, 0, none⟩) xs.length c := by
  obtain ⟨A, c, rfl⟩ := Kd.R_slice (Kd.S_R h)
  obtain ⟨b, hb, _⟩ := hb
  cases A with
  | none => simp [Value.ownBlock] at hb
  | some ad =>
    obtain ⟨g, rfl⟩ := Kd.R_head (Kd.S_R h)
    exact ⟨g, c, rfl⟩
set_option maxHeartbeats 8000000 in
set_option maxRecDepth 100000 in
theorem feature_improved.calls (k : Nat) (A0 : Option Addr) (c0 : Nat) (l0 : List (List Int)) (A1 : Option Addr) (c1 : Nat) (l1 : List (List Int)) (r : List (List Int)) (w : World) (hr0 : Kd.C (Kd.slice 3 (Kd.int .i64)) w A0 l0.length l0) (hc0 : l0.length ≤ c0) (hr1 : Kd.C (Kd.slice 3 (Kd.int .i64)) w A1 l1.length l1) (hc1 : l1.length ≤ c1) (h : feature_improved.f k l0 l1 = some r) :
    Calls Tryd.prog 121 #[.slice A0 l0.length c0, .slice A1 l1.length c1] w fun e w' => ∃ v0_ : Value, e = .returned (v0_) ∧ Kd.S (Kd.slice 3 (Kd.int .i64)) 22 w' w.heap.size (fun _ => True) v0_ r ∧ Below w.heap.size w w' := by
  unfold feature_improved.f at h
  by_cases hs : l1.length ≤ 5864062014805 ∧ l0.length ≤ 5864062014805 ∧ ∀ c ∈ l1, c.length ≤ 17592186044416
  · rw [if_pos hs] at h
    obtain ⟨hs0, hs1, hs2⟩ := hs
    obtain ⟨is, hn, h⟩ := Option.bind_eq_some_iff.1 h
    obtain ⟨hil, hnr⟩ := nears_at k l1 l0 is hn
    by_cases hi : ∀ i ∈ is, 0 ≤ i ∧ i < (l1.length : Int)
    · rw [if_pos hi] at h
      obtain ⟨hrl, him⟩ := improved_at k l0 is l1 r 0 h
      clear h hn
      have HN := Aside0.mk hnr
      have HI := Aside0.mk hi
      have HM := Aside0.mk him
      have HS2 := Aside0.mk hs2
      clear hnr hi him hs2
      have HR0 := Aside0.mk hr0
      have HC0 := Aside0.mk hc0
      have HR1 := Aside0.mk hr1
      have HC1 := Aside0.mk hc1
      clear hr0 hc0 hr1 hc1
      have HB := Aside0.mk (Below.refl w.heap.size w)
      go_enter Tryd.func121, Tryd.ntmps121
      go_wp2_with (first | ((with_reducible refine gate_dst (N := 15) rfl ?_); go_must (refine Kd.S_make (Kd.slice 22 (lent w)) w.heap.size 42 rfl (N := 15) rfl 152 _ _ rfl (l1.length : Int) rfl rfl Tryd.underlying152 (.slice none 0 0) 24 info42_ rfl Nat.zero_lt_one (by omega) ([] : List (List Int)) (ok := fun _ => True) (okp := fun _ => True) ⟨_, rfl, Kd.R_nil _ _ _ _ _⟩ (fun _ hk => hk) trivial (by omega) (by omega) HB.out (Nat.le_refl _) ?_; intro v103 w5 ho hb hg_ hnew_; clear hg_; rw [Int.toNat_natCast, ← grown_zero l0 is] at ho; obtain ⟨g, c, eo⟩ := S_form3 ho hnew_; rw [grown_length] at eo; subst eo; clear hnew_; have HO := Aside0.mk ho; have HB2 := Aside0.mk hb; clear ho hb)))
      go_loopg [18] (l0.length + 1) (fun kq v18 w' => ∃ (x : Int), v18 = .int .i64 x ∧ 0 ≤ x ∧ x ≤ (l0.length : Int) ∧ x.toNat + kq = l0.length + 1 ∧ Aside0 (Kd.S (Kd.slice 22 (lent w)) 42 w' w.heap.size (fun _ => True) (.slice (some ⟨g, 0, none⟩) l1.length c) (grown l0 is l1.length x.toNat)) ∧ Aside0 (Below w.heap.size w w'))
      case atStart => exact ⟨0, rfl, by omega, by omega, by simp, HO, HB2⟩
      case round =>
        clear HO HB2
        obtain ⟨x, rfl, hx0, hxn, hk, HO, HB⟩ := hrel
        by_cases c5 : x < (l0.length : Int)
        · have c5b : decide (x < (l0.length : Int)) = true := decide_eq_true c5
          have c5a : decide (0 ≤ x) = true := decide_eq_true hx0
          obtain ⟨ad101, A101, c101, e101, hx101', hl101, hi101⟩ := at_L2 HR0.out x hx0 c5
          have hx101 := cell_below HB.out hx101'
          cases e101
          obtain ⟨d, hd⟩ := HN.out x.toNat (by omega)
          obtain ⟨ha0, ha1⟩ := HI.out (is.getD x.toNat 0) (by rw [List.getD_eq_getElem?_getD, List.getElem?_eq_getElem (by omega : x.toNat < is.length)]; exact List.getElem_mem _)
          obtain ⟨a, hae⟩ : ∃ a, a = is.getD x.toNat 0 := ⟨_, rfl⟩
          rw [← hae] at ha0 ha1 hd
          have hd' : feature_nearest.f k (rd_L2 l0 x) l1 = some (a, d) := hd
          have p := eq_true hx0
          have q := eq_true c5
          have HAE := Aside0.mk hae
          clear hae hd
          have pa := eq_true ha0
          have qa := eq_true ha1
          go_wp2_with (first
            | ((with_reducible refine gate_callee (f := 101) rfl ?_); go_must (refine goesL_ (some 25) rfl rfl Tryd.func101 (by kernel_rfl) rfl #[.slice A101 (rd_L2 l0 x).length c101, .slice A1 l1.length c1] rfl (by (try simp only [List.map_toArray, List.map_cons, List.map_nil]); first | done | rfl) ?_; (with_reducible refine (feature_nearest.calls k _ _ (rd_L2 l0 x) _ _ l1 a d _ ?side1 ?side2 ?side3 ?side4 hd').mono ?_); (case side1 => exact Kd.C_below hi101 HB.out); (case side2 => exact hl101); (case side3 => exact Kd.C_below HR1.out HB.out); (case side4 => exact HC1.out); rintro e w' ⟨rfl, ⟨nd, rfl⟩⟩; refine ⟨_, rfl, ?_⟩; rw [drewN_self wr]; generalize hq_ : World.drewN wr _ = wq; have HO2 : Aside0 (Kd.S (Kd.slice 22 (lent w)) 42 wq w.heap.size (fun _ => True) (.slice (some ⟨g, 0, none⟩) l1.length c) (grown l0 is l1.length x.toNat)) := ⟨by rw [← hq_]; exact Kd.S_drewN HO.out _⟩; have HB2 : Aside0 (Below w.heap.size w wq) := ⟨by rw [← hq_]; exact pw_below_drewN HB.out _⟩; clear hq_; obtain ⟨oki, Ag, cg, hxg, hRg, hback⟩ := S_lent HO2.out a ha0 ha1; obtain ⟨gx, hgx⟩ : ∃ gx, gx = (grown l0 is l1.length x.toNat).getD a.toNat [] := ⟨_, rfl⟩; rw [← hgx] at hxg hRg hback; have hgl : gx.length < l0.length := (by rw [hgx, grown_getD _ _ _ _ _ (by omega)]; have := group_le (l0.take x.toNat) (is.take x.toNat) (a.toNat : Int); rw [List.length_take] at this; omega); have HGX := Aside0.mk hgx; have HRG := Aside0.mk hRg; have HBK := Aside0.mk hback; clear hgx hRg hback))
            | ((with_reducible refine gate_builtin (b := .append) (xs := #[.tmp 33, .tmp 35]) rfl ?_); at_builtin; go_must (refine Kd.R_append (lent w) (w0 := w) w.heap.size rfl (.tmp 33) (.tmp 35) 42 22 (.slice none 0 0) 24 rfl Tryd.underlying42 info22 rfl Nat.zero_lt_one (by omega) (.slice Ag gx.length cg) gx (rd_L2 l0 x) [.slice A101 (rd_L2 l0 x).length c101] (fun k_ => oki k_ ∨ wq.heap.size ≤ k_) (fun _ => False) rfl rfl ⟨A101, c101, rfl, hl101, hi101⟩ (fun _ h => h.elim) (fun k_ hk_ => Or.inr hk_) HRG.out HB2.out (below_size HB2.out) (by omega) ?_; intro v1 w1 ho hb hg hat; obtain ⟨⟨xc, hxc⟩, hfz, hS9⟩ := HBK.out w1 v1 _ ho hg; have HB3 := Aside0.mk (below_set (j := a.toNat) (v := v1) hb (Kd.S_base HO2.out g (by simp [Value.ownBlock]))); have HS9 := Aside0.mk hS9; clear hS9; obtain ⟨ys, hys⟩ : ∃ ys, ys = gx ++ [rd_L2 l0 x] := ⟨_, rfl⟩; rw [← hys] at ho; obtain ⟨Av, cv, ev⟩ := Kd.R_slice ho; subst ev; have HYS := Aside0.mk hys; clear ho hb hg hat hys))
            | ((with_reducible refine gate_store (t := 42) (p := 37) rfl ?_); go_must (refine store_event (t := 42) (p := 37) (v := ?vo_) (w1 := (w1.setCell ⟨g, (a : Int).toNat, none⟩ (.slice Av ys.length cv))) ?hg ?ho ?hn ?hr ?_; (case ho => rfl); (case hg => rfl); (case hn => rfl); (case hr => first | (go_simp; done) | (go_simp; rfl)); intro w11 hw; have HS3 : Aside0 (Kd.S (Kd.slice 22 (lent w)) 42 w11 w.heap.size (fun _ => True) (.slice (some ⟨g, 0, none⟩) l1.length c) (grown l0 is l1.length (x.toNat + 1))) := ⟨by rw [hw, ← grown_step l0 is hil l1.length x.toNat (by omega) a HAE.out.symm ha0 ha1, ← HGX.out]; exact HS9.out⟩; have HB4 := Aside0.mk (by rw [hw]; exact HB3.out : Below w.heap.size w w11); clear hw))
            )
          go_roundg (gk - 1)
          case measure => omega
          case rel => exact ⟨x + 1, rfl, by omega, by omega, by omega, ⟨by rw [(by omega : (x + 1).toNat = x.toNat + 1)]; exact HS3.out⟩, HB4⟩
        · have c5b : decide (x < (l0.length : Int)) = false := decide_eq_false c5
          have hxe : x.toNat = l0.length := by omega
          obtain ⟨wm, hwm⟩ : ∃ wm, wm = wr := ⟨wr, rfl⟩
          subst hwm
          have hcp : feature_copied.f l1 = some l1 := (by unfold feature_copied.f; rw [if_pos ⟨hs0, HS2.out⟩])
          have HG : Aside0 ((Kd.slice 22 (lent w)).C wm (some ⟨g, 0, none⟩) l1.length (grown l0 is l1.length l0.length)) := ⟨by have z := (Kd.R_reads' (Kd.S_R HO.out)).2.2; rw [hxe, grown_length] at z; exact z⟩
          have HB1 := Aside0.mk HB.out
          clear HB HO
          go_wp2_with (first
            | ((with_reducible refine gate_callee (f := 122) rfl ?_); go_must (refine goesL_ (some 40) rfl rfl Tryd.func122 (by kernel_rfl) rfl #[.slice A1 l1.length c1] rfl (by (try simp only [List.map_toArray, List.map_cons, List.map_nil]); first | done | rfl) ?_; (with_reducible refine (feature_copied.calls _ _ l1 l1 _ ?side1 ?side2 hcp).mono ?_); (case side1 => exact Kd.C_below HR1.out HB1.out); (case side2 => exact HC1.out); rintro e w6 ⟨v104, rfl, ho0, hb⟩; refine ⟨_, rfl, ?_⟩; obtain ⟨A2, c2, e2⟩ := Kd.R_slice (Kd.S_R ho0); subst e2; have HO := Aside0.mk ho0; have HB2 := Aside0.mk hb; clear ho0 hb hcp)))
          go_loopg [43] (l1.length + 1) (fun kq v43 w' => ∃ (y : Int), v43 = .int .i64 y ∧ 0 ≤ y ∧ y ≤ (l1.length : Int) ∧ y.toNat + kq = l1.length + 1 ∧ Aside0 (Kd.S (Kd.slice 3 (Kd.int .i64)) 22 w' wm.heap.size (fun _ => True) (.slice A2 l1.length c2) (outAt r l1 y.toNat)) ∧ Aside0 (Below wm.heap.size wm w'))
          case atStart => exact ⟨0, rfl, by omega, by omega, by simp, ⟨by rw [Int.toNat_zero, outAt_zero]; exact HO.out⟩, HB2⟩
          case round =>
            clear HO HB2
            obtain ⟨y, rfl, hy0, hyn, hk2, HO, HB⟩ := hrel
            by_cases d5 : y < (l1.length : Int)
            · have d5b : decide (y < (l1.length : Int)) = true := decide_eq_true d5
              have d5a : decide (0 ≤ y) = true := decide_eq_true hy0
              obtain ⟨g2, cap2, e2, _⟩ := Kd.R_form (Kd.S_R HO.out) (by rw [outAt_length _ _ hrl]; omega)
              rw [outAt_length _ _ hrl] at e2
              injection e2 with e2a e2b e2c
              subst e2a
              subst e2c
              obtain ⟨ad, cc, ea, hcl, ⟨Ag, cg, hcu, hgl, hgC⟩, hcc⟩ := Kd.C_get (Kd.C_below HG.out HB.out) [] y hy0 d5
              subst hcu
              injection ea with ea
              subst ea
              have hxg := hcc 0 _ rfl
              rw [lent_sz, add_at, Nat.zero_add, Nat.mul_one, Nat.add_zero] at hxg
              rw [grown_all l0 is hil _ _ (by omega)] at hxg hgl hgC
              obtain ⟨gx, hgx⟩ : ∃ gx, gx = group l0 is (y.toNat : Int) := ⟨_, rfl⟩
              rw [← hgx] at hxg hgl hgC
              have hmy := HM.out y.toNat (by omega)
              rw [Int.zero_add, ← hgx] at hmy
              have HGX := Aside0.mk hgx
              clear hgx hcc hcl
              have HGC := Aside0.mk hgC
              clear hgC
              have p2 := eq_true hy0
              have q2 := eq_true d5
              rcases hmy with ⟨hem, hre⟩ | ⟨hne, hme⟩
              · subst hem
                have HRE := Aside0.mk hre
                clear hre
                go_wp2
                go_roundg (gk - 1)
                case measure => omega
                case rel => exact ⟨y + 1, rfl, by omega, by omega, by omega, ⟨by rw [(by omega : (y + 1).toNat = y.toNat + 1), ← outAt_same r l1 hrl y.toNat (by omega) HRE.out]; exact HO.out⟩, HB⟩
              · have hg0 : 0 < gx.length := List.length_pos_iff.2 hne
                have hg1 : (0 : Int) < (gx.length : Int) := by omega
                have hg2 : decide ((0 : Int) < (gx.length : Int)) = true := decide_eq_true hg1
                have HME := Aside0.mk hme
                clear hme hne
                go_wp2_with (first
                  | ((with_reducible refine gate_callee (f := 150) rfl ?_); go_must (refine goesL_ (some 54) rfl rfl Tryd.func150 (by kernel_rfl) rfl #[.slice Ag gx.length cg] rfl (by (try simp only [List.map_toArray, List.map_cons, List.map_nil]); first | done | rfl) ?_; (with_reducible refine (feature_mean.calls k _ _ gx (r.getD y.toNat []) _ ?side1 ?side2 HME.out).mono ?_); (case side1 => exact lent_C (below_step HB1.out HB.out) HGC.out); (case side2 => exact hgl); rintro e w8 ⟨v105, rfl, ho, hb⟩; refine ⟨_, rfl, ?_⟩; obtain ⟨m, hm⟩ : ∃ m, m = r.getD y.toNat [] := ⟨_, rfl⟩; rw [← hm] at ho; obtain ⟨Au, cu, eu⟩ := Kd.R_slice ho; subst eu; obtain ⟨⟨x9, hx9⟩, hf9, hS9, hg9⟩ := S_put HO.out ho hb (below_size HB.out) y.toNat (by omega); have HS := Aside0.mk hS9; have HMM := Aside0.mk hm; have HB3 := Aside0.mk (below_set (j := y.toNat) (v := (.slice Au m.length cu)) (below_step HB.out hb) (Kd.S_base HO.out g2 (by simp [Value.ownBlock]))); clear hS9 hg9 ho hb hm))
                  | ((with_reducible refine gate_store (t := 22) (p := 55) rfl ?_); go_must (refine store_event (t := 22) (p := 55) (v := ?vo2_) (w1 := (w8.setCell ⟨g2, (y : Int).toNat, none⟩ (.slice Au m.length cu))) ?hg ?ho ?hn ?hr ?_; (case ho => rfl); (case hg => rfl); (case hn => rfl); (case hr => first | (go_simp; done) | (go_simp; rfl)); intro w11 hw; have HS3 : Aside0 (Kd.S (Kd.slice 3 (Kd.int .i64)) 22 w11 wm.heap.size (fun _ => True) (.slice (some ⟨g2, 0, none⟩) l1.length c2) (outAt r l1 (y.toNat + 1))) := ⟨by rw [hw, ← outAt_step r l1 hrl y.toNat (by omega), ← HMM.out]; exact HS.out⟩; have HB4 := Aside0.mk (by rw [hw]; exact HB3.out : Below wm.heap.size wm w11); clear hw))
                  )
                go_roundg (gk - 1)
                case measure => omega
                case rel => exact ⟨y + 1, rfl, by omega, by omega, by omega, ⟨by rw [(by omega : (y + 1).toNat = y.toNat + 1)]; exact HS3.out⟩, HB4⟩
            · have d5b : decide (y < (l1.length : Int)) = false := decide_eq_false d5
              have hye : y.toNat = l1.length := by omega
              go_wp2
              go_ret
              exact ⟨_, rfl, by have z := HO.out; rw [hye, outAt_all r l1 hrl] at z; exact Kd.S_lower z (below_size HB1.out), below_step HB1.out HB.out⟩
    · rw [if_neg hi] at h
      exact absurd h (by simp)
  · rw [if_neg hs] at h
    exact absurd h (by simp)

end Go.Proofs.YtdlbmbijobcljaaDoor.X

-- By a program of this session's own (wip/print), after the kit's print.
namespace Go.Proofs.YtdlbmbijobcljaaDoor.X
open Go.RowKit Go.Proofs.YtdlbmbijobcljaaDoorW.PrintWords Go.Proofs.YtdlbmbijobcljaaDoorW.PrintLast Go.Proofs.YtdlbmbijobcljaaDoorW.PrintMore
attribute [local go_sem] max2_int min2_int max_two min_two max_three min_three max_four min_four   -- for this text's walks alone
set_option linter.unusedVariables false
set_option linter.unusedSimpArgs false

/-! ### feature_vectors: function 113 -/
def feature_vectors.l0 : Nat → List (List Int) → List (List Int) → Int → Int → Option (Int)
 | 0, _, _, _, _ => none
 | k + 1, x0, x8, x9, x10 => if x10 < x9 then (if 0 ≤ x10 then (if x10 < (x8.length : Int) then (if 0 < (x0.length : Int) then (if ((rd_L2 x8 x10).length : Int) = ((rd_L2 x0 0).length : Int) then (if ((rd_L2 x8 x10).length : Int) < 1 then (some 2) else (if ((rd_L2 x8 x10).length : Int) > 64 then (some 2) else ((feature_within.f (rd_L2 x8 x10) 1048576).bind fun t103 => (if t103 = true then (feature_vectors.l0 k x0 x8 x9 (wrap64 (x10 + 1))) else (some 2))))) else (some 2)) else (none)) else (none)) else (none)) else (some 0)
def feature_vectors.f (k : Nat) (l0 : List (List Int)) : Option (Int) := if (l0.length : Int) > 10000 then (some 5) else (feature_vectors.l0 k l0 l0 (l0.length : Int) 0)
theorem feature_vectors.mono_l : ∀ k, (∀ y0 y1 y2 y3, LeO (feature_vectors.l0 k y0 y1 y2 y3) (feature_vectors.l0 (k + 1) y0 y1 y2 y3))
 | 0 => fun _ _ _ _ r h => by simp [feature_vectors.l0] at h
 | k + 1 => by
  have ih0 := feature_vectors.mono_l k
  ·intro y0 y1 y2 y3
   unfold feature_vectors.l0
   repeat' first
   | (with_reducible exact ih0 _ _ _ _)
   | (with_reducible exact LeO.refl _)
   | (with_reducible exact LeO.none _)
   | (with_reducible refine LeO.ite ?_ ?_)
   | (with_reducible refine LeO.bind ?_ (fun _ => ?_))
   | exact ih0 _ _ _ _
   | exact LeO.none _
   | refine LeO.ite ?_ ?_
   | refine LeO.bind ?_ (fun _ => ?_)
theorem feature_vectors.mono : ∀ a0 k, LeO (feature_vectors.f k a0) (feature_vectors.f (k + 1) a0) := by
 intro a0 k
 have ih0 := feature_vectors.mono_l k
 unfold feature_vectors.f
 repeat' first
   | (with_reducible exact ih0 _ _ _ _)
   | (with_reducible exact LeO.refl _)
   | (with_reducible exact LeO.none _)
   | (with_reducible refine LeO.ite ?_ ?_)
   | (with_reducible refine LeO.bind ?_ (fun _ => ?_))
   | exact ih0 _ _ _ _
   | exact LeO.none _
   | refine LeO.ite ?_ ?_
   | refine LeO.bind ?_ (fun _ => ?_)
set_option maxHeartbeats 8000000 in
set_option maxRecDepth 100000 in
theorem feature_vectors.calls (k : Nat) (A0 : Option Addr) (c0 : Nat) (l0 : List (List Int)) (r : Int) (w : World) (hr0 : Kd.C (Kd.slice 3 (Kd.int .i64)) w A0 l0.length l0) (hc0 : l0.length ≤ c0) (h : feature_vectors.f k l0 = some r) :
  Calls Tryd.prog 113 #[.slice A0 l0.length c0] w fun e w' => e = .returned (.int .i64 r) ∧ Below w.heap.size w w' := by
 have HR0 := Aside0.mk hr0
 have HC0 := Aside0.mk hc0
 clear hr0 hc0
 have HB := Aside0.mk (Below.refl w.heap.size w)
 have H : (if (l0.length : Int) > 10000 then (some 5) else (feature_vectors.l0 k l0 l0 (l0.length : Int) 0)) = some r := h
 clear h
 by_cases c2 : (l0.length : Int) > 10000
 ·rw [if_pos c2] at H
  have c2b0 : decide (10000 < (l0.length : Int)) = true := decide_eq_true c2
  have c2b1 : decide (10000 < l0.length) = true := decide_eq_true (by omega)
  clear c2
  obtain rfl := Option.some.inj H
  go_enter Tryd.func113, Tryd.ntmps113
  go_wp2
  go_ret
  exact ⟨by first | rfl | (simp [errW_none, errW_some] <;> rfl) | (simp [*, errW_none, errW_some] <;> rfl), tB⟩
 ·rw [if_neg c2] at H
  have c2b0 : decide (10000 < (l0.length : Int)) = false := decide_eq_false c2
  have c2b1 : decide (10000 < l0.length) = false := decide_eq_false (by omega)
  clear c2
  have H' := Aside0.mk H
  clear H
  go_enter Tryd.func113, Tryd.ntmps113
  go_wp2
  go_loopg [10] k (fun kq v10 w' => ∃ (x10_1 : Int), v10 = .int .i64 x10_1 ∧ Aside0 (feature_vectors.l0 kq l0 l0 (l0.length : Int) x10_1 = some r) ∧ Aside0 (kq ≤ k) ∧ Aside0 (Below w.heap.size w w'))
  case atStart => exact ⟨(0), (by first | rfl | (simp; done) | (simp only [i64_w]; done) | (simp [*]; done)), H', ⟨Nat.le_refl _⟩, ⟨tB⟩⟩
  case round =>
   clear H'
   try clear c1
   try clear c2
   try clear c2b0
   try clear c2b1
   try clear p2
   obtain ⟨x10_1, rfl, HA, HK1, HB⟩ := hrel
   cases gk with
   | zero => exact absurd HA.out (by simp [feature_vectors.l0])
   | succ k1 =>
    have H := HA.out
    clear HA
    simp only [feature_vectors.l0] at H
    by_cases c3 : x10_1 < (l0.length : Int)
    ·rw [if_pos c3] at H
     have c3b0 := decide_eq_true c3
     clear c3
     by_cases c4 : 0 ≤ x10_1
     ·rw [if_pos c4] at H
      have c4b0 := decide_eq_true c4
      clear c4
      by_cases c5 : x10_1 < (l0.length : Int)
      ·rw [if_pos c5] at H
       have c5b0 := decide_eq_true c5
       clear c5
       by_cases c6 : 0 < (l0.length : Int)
       ·rw [if_pos c6] at H
        have c6b0 := decide_eq_true c6
        have c6b1 : decide (0 < l0.length) = true := decide_eq_true (by omega)
        clear c6
        by_cases c7 : ((rd_L2 l0 x10_1).length : Int) = ((rd_L2 l0 0).length : Int)
        ·rw [if_pos c7] at H
         have c7b0 : (((rd_L2 l0 x10_1).length : Int) == ((rd_L2 l0 0).length : Int)) = true := beq_iff_eq.mpr c7
         have c7b1 : (((rd_L2 l0 x10_1).length : Int) != ((rd_L2 l0 0).length : Int)) = false := bne_eq_false_iff_eq.mpr c7
         have c7b2 : ((rd_L2 l0 x10_1).length == (rd_L2 l0 0).length) = true := by first | simpa using c7 | (simp at c7 ⊢; omega)
         clear c7
         by_cases c8 : ((rd_L2 l0 x10_1).length : Int) < 1
         ·rw [if_pos c8] at H
          have c8b0 := decide_eq_true c8
          have c8b1 : decide ((rd_L2 l0 x10_1).length < 1) = true := decide_eq_true (by omega)
          clear c8
          obtain rfl := Option.some.inj H
          have p101 : 0 ≤ (x10_1 : Int) := of_decide_eq_true tA
          have q101 : x10_1 < (l0.length : Int) := of_decide_eq_true tA
          obtain ⟨ad101, A101_0, c101_0, e101, hx101_0, hl101_0, hi101_0⟩ := at_L2 HR0.out x10_1 p101 q101
          cases e101
          replace hx101_0 := (HB.out.cell (World.block_lt_of_cell? w _ hx101_0)).trans hx101_0
          have HR101_0 := Aside0.mk hi101_0
          have HC101_0 := Aside0.mk hl101_0
          clear hi101_0 hl101_0
          replace p101 := eq_true p101
          replace q101 := eq_true q101
          have p102 : 0 ≤ (0 : Int) := (by omega)
          have q102 : 0 < (l0.length : Int) := of_decide_eq_true tA
          obtain ⟨ad102, A102_0, c102_0, e102, hx102_0, hl102_0, hi102_0⟩ := at_L2 HR0.out 0 p102 q102
          obtain rfl : ad101 = ad102 := (by injection e102)
          have qi102 : (0 < l0.length) = True := eq_true (by omega)
          (try rw [show ((0 : Int)).toNat = 0 from rfl] at hx102_0)
          (try rw [Addr.add_zero'] at hx102_0)
          replace hx102_0 := (HB.out.cell (World.block_lt_of_cell? w _ hx102_0)).trans hx102_0
          have HR102_0 := Aside0.mk hi102_0
          have HC102_0 := Aside0.mk hl102_0
          clear hi102_0 hl102_0
          replace p102 := eq_true p102
          replace q102 := eq_true q102
          go_wp2
          go_ret
          exact ⟨by first | rfl | (simp [errW_none, errW_some] <;> rfl) | (simp [*, errW_none, errW_some] <;> rfl), tB⟩
         ·rw [if_neg c8] at H
          have c8b0 := decide_eq_false c8
          have c8b1 : decide ((rd_L2 l0 x10_1).length < 1) = false := decide_eq_false (by omega)
          clear c8
          by_cases c9 : ((rd_L2 l0 x10_1).length : Int) > 64
          ·rw [if_pos c9] at H
           have c9b0 : decide (64 < ((rd_L2 l0 x10_1).length : Int)) = true := decide_eq_true c9
           have c9b1 : decide (64 < (rd_L2 l0 x10_1).length) = true := decide_eq_true (by omega)
           clear c9
           obtain rfl := Option.some.inj H
           have p101 : 0 ≤ (x10_1 : Int) := of_decide_eq_true tA
           have q101 : x10_1 < (l0.length : Int) := of_decide_eq_true tA
           obtain ⟨ad101, A101_0, c101_0, e101, hx101_0, hl101_0, hi101_0⟩ := at_L2 HR0.out x10_1 p101 q101
           cases e101
           replace hx101_0 := (HB.out.cell (World.block_lt_of_cell? w _ hx101_0)).trans hx101_0
           have HR101_0 := Aside0.mk hi101_0
           have HC101_0 := Aside0.mk hl101_0
           clear hi101_0 hl101_0
           replace p101 := eq_true p101
           replace q101 := eq_true q101
           have p102 : 0 ≤ (0 : Int) := (by omega)
           have q102 : 0 < (l0.length : Int) := of_decide_eq_true tA
           obtain ⟨ad102, A102_0, c102_0, e102, hx102_0, hl102_0, hi102_0⟩ := at_L2 HR0.out 0 p102 q102
           obtain rfl : ad101 = ad102 := (by injection e102)
           have qi102 : (0 < l0.length) = True := eq_true (by omega)
           (try rw [show ((0 : Int)).toNat = 0 from rfl] at hx102_0)
           (try rw [Addr.add_zero'] at hx102_0)
           replace hx102_0 := (HB.out.cell (World.block_lt_of_cell? w _ hx102_0)).trans hx102_0
           have HR102_0 := Aside0.mk hi102_0
           have HC102_0 := Aside0.mk hl102_0
           clear hi102_0 hl102_0
           replace p102 := eq_true p102
           replace q102 := eq_true q102
           go_wp2
           go_ret
           exact ⟨by first | rfl | (simp [errW_none, errW_some] <;> rfl) | (simp [*, errW_none, errW_some] <;> rfl), tB⟩
          ·rw [if_neg c9] at H
           have c9b0 : decide (64 < ((rd_L2 l0 x10_1).length : Int)) = false := decide_eq_false c9
           have c9b1 : decide (64 < (rd_L2 l0 x10_1).length) = false := decide_eq_false (by omega)
           clear c9
           replace H := Option.bind_eq_some_iff.mp H
           obtain ⟨t103, A100, H⟩ := H
           try dsimp only at H
           have A10 := Aside0.mk A100
           clear A100
           by_cases c11 : t103 = true
           ·subst c11
            have H1 : (feature_vectors.l0 k1 l0 l0 (l0.length : Int) (wrap64 (x10_1 + 1))) = some r := by rw [if_pos rfl] at H; exact H
            clear H
            have H := H1
            clear H1
            have H' := Aside0.mk H
            clear H
            have p101 : 0 ≤ (x10_1 : Int) := of_decide_eq_true tA
            have q101 : x10_1 < (l0.length : Int) := of_decide_eq_true tA
            obtain ⟨ad101, A101_0, c101_0, e101, hx101_0, hl101_0, hi101_0⟩ := at_L2 HR0.out x10_1 p101 q101
            cases e101
            replace hx101_0 := (HB.out.cell (World.block_lt_of_cell? w _ hx101_0)).trans hx101_0
            have HR101_0 := Aside0.mk hi101_0
            have HC101_0 := Aside0.mk hl101_0
            clear hi101_0 hl101_0
            replace p101 := eq_true p101
            replace q101 := eq_true q101
            have p102 : 0 ≤ (0 : Int) := (by omega)
            have q102 : 0 < (l0.length : Int) := of_decide_eq_true tA
            obtain ⟨ad102, A102_0, c102_0, e102, hx102_0, hl102_0, hi102_0⟩ := at_L2 HR0.out 0 p102 q102
            obtain rfl : ad101 = ad102 := (by injection e102)
            have qi102 : (0 < l0.length) = True := eq_true (by omega)
            (try rw [show ((0 : Int)).toNat = 0 from rfl] at hx102_0)
            (try rw [Addr.add_zero'] at hx102_0)
            replace hx102_0 := (HB.out.cell (World.block_lt_of_cell? w _ hx102_0)).trans hx102_0
            have HR102_0 := Aside0.mk hi102_0
            have HC102_0 := Aside0.mk hl102_0
            clear hi102_0 hl102_0
            replace p102 := eq_true p102
            replace q102 := eq_true q102
            go_wp2_with (first | (go_at_call 80; (with_reducible refine (feature_within.calls _ _ (rd_L2 l0 x10_1) 1048576 true _ ?side1 ?side2 A10.out).mono ?_); (case side1 => exact tC (Kd.C_below HR101_0.out HB.out)); (case side2 => exact HC101_0.out); rintro e w12 ⟨rfl, hb⟩; replace HB := Aside0.mk (below_step tB hb); (try clear hb); (try clear hb2); (try clear hk); (try clear hi)))
            go_roundg k1
            case measure => have := HK1.out; omega
            case rel => exact ⟨(wrap64 (x10_1 + 1)), (by first | rfl | (simp; done) | (simp only [i64_w]; done) | (simp [*]; done)), H', ⟨by have := HK1.out; omega⟩, ⟨tB⟩⟩
           ·replace c11 := Bool.eq_false_iff.mpr c11
            subst c11
            have H1 : (some 2) = some r := by rw [if_neg (show ¬ (false = true) by decide)] at H; exact H
            clear H
            have H := H1
            clear H1
            obtain rfl := Option.some.inj H
            have p101 : 0 ≤ (x10_1 : Int) := of_decide_eq_true tA
            have q101 : x10_1 < (l0.length : Int) := of_decide_eq_true tA
            obtain ⟨ad101, A101_0, c101_0, e101, hx101_0, hl101_0, hi101_0⟩ := at_L2 HR0.out x10_1 p101 q101
            cases e101
            replace hx101_0 := (HB.out.cell (World.block_lt_of_cell? w _ hx101_0)).trans hx101_0
            have HR101_0 := Aside0.mk hi101_0
            have HC101_0 := Aside0.mk hl101_0
            clear hi101_0 hl101_0
            replace p101 := eq_true p101
            replace q101 := eq_true q101
            have p102 : 0 ≤ (0 : Int) := (by omega)
            have q102 : 0 < (l0.length : Int) := of_decide_eq_true tA
            obtain ⟨ad102, A102_0, c102_0, e102, hx102_0, hl102_0, hi102_0⟩ := at_L2 HR0.out 0 p102 q102
            obtain rfl : ad101 = ad102 := (by injection e102)
            have qi102 : (0 < l0.length) = True := eq_true (by omega)
            (try rw [show ((0 : Int)).toNat = 0 from rfl] at hx102_0)
            (try rw [Addr.add_zero'] at hx102_0)
            replace hx102_0 := (HB.out.cell (World.block_lt_of_cell? w _ hx102_0)).trans hx102_0
            have HR102_0 := Aside0.mk hi102_0
            have HC102_0 := Aside0.mk hl102_0
            clear hi102_0 hl102_0
            replace p102 := eq_true p102
            replace q102 := eq_true q102
            go_wp2_with (first | (go_at_call 80; (with_reducible refine (feature_within.calls _ _ (rd_L2 l0 x10_1) 1048576 false _ ?side1 ?side2 A10.out).mono ?_); (case side1 => exact tC (Kd.C_below HR101_0.out HB.out)); (case side2 => exact HC101_0.out); rintro e w13 ⟨rfl, hb⟩; replace HB := Aside0.mk (below_step tB hb); (try clear hb); (try clear hb2); (try clear hk); (try clear hi)))
            go_ret
            exact ⟨by first | rfl | (simp [errW_none, errW_some] <;> rfl) | (simp [*, errW_none, errW_some] <;> rfl), tB⟩
        ·rw [if_neg c7] at H
         have c7b0 : (((rd_L2 l0 x10_1).length : Int) == ((rd_L2 l0 0).length : Int)) = false := beq_eq_false_iff_ne.mpr c7
         have c7b1 : (((rd_L2 l0 x10_1).length : Int) != ((rd_L2 l0 0).length : Int)) = true := bne_iff_ne.mpr c7
         have c7b2 : ((rd_L2 l0 x10_1).length == (rd_L2 l0 0).length) = false := by first | simpa using c7 | (simp at c7 ⊢; omega)
         obtain rfl := Option.some.inj H
         have p101 : 0 ≤ (x10_1 : Int) := of_decide_eq_true tA
         have q101 : x10_1 < (l0.length : Int) := of_decide_eq_true tA
         obtain ⟨ad101, A101_0, c101_0, e101, hx101_0, hl101_0, hi101_0⟩ := at_L2 HR0.out x10_1 p101 q101
         cases e101
         replace hx101_0 := (HB.out.cell (World.block_lt_of_cell? w _ hx101_0)).trans hx101_0
         have HR101_0 := Aside0.mk hi101_0
         have HC101_0 := Aside0.mk hl101_0
         clear hi101_0 hl101_0
         replace p101 := eq_true p101
         replace q101 := eq_true q101
         have p102 : 0 ≤ (0 : Int) := (by omega)
         have q102 : 0 < (l0.length : Int) := of_decide_eq_true tA
         obtain ⟨ad102, A102_0, c102_0, e102, hx102_0, hl102_0, hi102_0⟩ := at_L2 HR0.out 0 p102 q102
         obtain rfl : ad101 = ad102 := (by injection e102)
         have qi102 : (0 < l0.length) = True := eq_true (by omega)
         (try rw [show ((0 : Int)).toNat = 0 from rfl] at hx102_0)
         (try rw [Addr.add_zero'] at hx102_0)
         replace hx102_0 := (HB.out.cell (World.block_lt_of_cell? w _ hx102_0)).trans hx102_0
         have HR102_0 := Aside0.mk hi102_0
         have HC102_0 := Aside0.mk hl102_0
         clear hi102_0 hl102_0
         replace p102 := eq_true p102
         replace q102 := eq_true q102
         go_wp2
         go_ret
         exact ⟨by first | rfl | (simp [errW_none, errW_some] <;> rfl) | (simp [*, errW_none, errW_some] <;> rfl), tB⟩
       ·rw [if_neg c6] at H
        exact absurd H (by simp)
      ·rw [if_neg c5] at H
       exact absurd H (by simp)
     ·rw [if_neg c4] at H
      exact absurd H (by simp)
    ·rw [if_neg c3] at H
     have c3b0 := decide_eq_false c3
     clear c3
     obtain rfl := Option.some.inj H
     go_wp2
     go_ret
     exact ⟨by first | rfl | (simp [errW_none, errW_some] <;> rfl) | (simp [*, errW_none, errW_some] <;> rfl), tB⟩

end Go.Proofs.YtdlbmbijobcljaaDoor.X

-- By a program of this session's own (wip/print), after the kit's print.
namespace Go.Proofs.YtdlbmbijobcljaaDoor.X
open Go.RowKit Go.Proofs.YtdlbmbijobcljaaDoorW.PrintWords Go.Proofs.YtdlbmbijobcljaaDoorW.PrintLast Go.Proofs.YtdlbmbijobcljaaDoorW.PrintMore
attribute [local go_sem] max2_int min2_int max_two min_two max_three min_three max_four min_four   -- for this text's walks alone
set_option linter.unusedVariables false
set_option linter.unusedSimpArgs false

/-! ### feature_codebook: function 143 -/
def feature_codebook.f (k : Nat) (l0 : List (List Int)) : Option (Bool) := if (l0.length : Int) ≥ 1 then (if (l0.length : Int) ≤ 256 then ((feature_vectors.f k l0).bind fun t101 => (some (t101 == 0))) else (some false)) else (some false)
theorem feature_codebook.mono : ∀ a0 k, LeO (feature_codebook.f k a0) (feature_codebook.f (k + 1) a0) := by
 intro a0 k
 unfold feature_codebook.f
 repeat' first
   | (with_reducible exact feature_vectors.mono _ _)
   | (with_reducible exact LeO.refl _)
   | (with_reducible exact LeO.none _)
   | (with_reducible refine LeO.ite ?_ ?_)
   | (with_reducible refine LeO.bind ?_ (fun _ => ?_))
   | exact feature_vectors.mono _ _
   | exact LeO.none _
   | refine LeO.ite ?_ ?_
   | refine LeO.bind ?_ (fun _ => ?_)
set_option maxHeartbeats 8000000 in
set_option maxRecDepth 100000 in
theorem feature_codebook.calls (k : Nat) (A0 : Option Addr) (c0 : Nat) (l0 : List (List Int)) (r : Bool) (w : World) (hr0 : Kd.C (Kd.slice 3 (Kd.int .i64)) w A0 l0.length l0) (hc0 : l0.length ≤ c0) (h : feature_codebook.f k l0 = some r) :
  Calls Tryd.prog 143 #[.slice A0 l0.length c0] w fun e w' => e = .returned (.bool r) ∧ Below w.heap.size w w' := by
 have HR0 := Aside0.mk hr0
 have HC0 := Aside0.mk hc0
 clear hr0 hc0
 have HB := Aside0.mk (Below.refl w.heap.size w)
 have H : (if (l0.length : Int) ≥ 1 then (if (l0.length : Int) ≤ 256 then ((feature_vectors.f k l0).bind fun t101 => (some (t101 == 0))) else (some false)) else (some false)) = some r := h
 clear h
 by_cases c2 : (l0.length : Int) ≥ 1
 ·rw [if_pos c2] at H
  have c2b0 : decide (1 ≤ (l0.length : Int)) = true := decide_eq_true c2
  have c2b1 : decide (1 ≤ l0.length) = true := decide_eq_true (by omega)
  clear c2
  by_cases c3 : (l0.length : Int) ≤ 256
  ·rw [if_pos c3] at H
   have c3b0 := decide_eq_true c3
   have c3b1 : decide (l0.length ≤ 256) = true := decide_eq_true (by omega)
   clear c3
   replace H := Option.bind_eq_some_iff.mp H
   obtain ⟨t101, A40, H⟩ := H
   try dsimp only at H
   have A4 := Aside0.mk A40
   clear A40
   obtain rfl := Option.some.inj H
   go_enter Tryd.func143, Tryd.ntmps143
   go_wp2_with (first | (go_at_call 113; (with_reducible refine (feature_vectors.calls k _ _ l0 t101 _ ?side1 ?side2 A4.out).mono ?_); (case side1 => exact tC HR0.out); (case side2 => exact HC0.out); rintro e w5 ⟨rfl, hb⟩; replace HB := Aside0.mk (below_step tB hb); (try clear hb); (try clear hb2); (try clear hk); (try clear hi)))
   go_ret
   exact ⟨by first | rfl | (simp [errW_none, errW_some] <;> rfl) | (simp [*, errW_none, errW_some] <;> rfl), tB⟩
  ·rw [if_neg c3] at H
   have c3b0 := decide_eq_false c3
   have c3b1 : decide (l0.length ≤ 256) = false := decide_eq_false (by omega)
   clear c3
   obtain rfl := Option.some.inj H
   go_enter Tryd.func143, Tryd.ntmps143
   go_wp2
   go_ret
   exact ⟨by first | rfl | (simp [errW_none, errW_some] <;> rfl) | (simp [*, errW_none, errW_some] <;> rfl), tB⟩
 ·rw [if_neg c2] at H
  have c2b0 : decide (1 ≤ (l0.length : Int)) = false := decide_eq_false c2
  have c2b1 : decide (1 ≤ l0.length) = false := decide_eq_false (by omega)
  clear c2
  obtain rfl := Option.some.inj H
  go_enter Tryd.func143, Tryd.ntmps143
  go_wp2
  go_ret
  exact ⟨by first | rfl | (simp [errW_none, errW_some] <;> rfl) | (simp [*, errW_none, errW_some] <;> rfl), tB⟩

end Go.Proofs.YtdlbmbijobcljaaDoor.X

-- By a program of this session's own (wip/print), after the kit's print.
namespace Go.Proofs.YtdlbmbijobcljaaDoor.X
open Go.RowKit Go.Proofs.YtdlbmbijobcljaaDoorW.PrintWords Go.Proofs.YtdlbmbijobcljaaDoorW.PrintLast Go.Proofs.YtdlbmbijobcljaaDoorW.PrintMore
attribute [local go_sem] max2_int min2_int max_two min_two max_three min_three max_four min_four   -- for this text's walks alone
set_option linter.unusedVariables false
set_option linter.unusedSimpArgs false

/-! ### feature_fits: function 100 -/
def feature_fits.j0 : Nat → List (List Int) → List (List Int) → Bool → Option (Int)
 | 0, _, _, _ => none
 | k + 1, x0, x1, x12 => if x12 = true then (some 5) else ((feature_vectors.f k x0).bind fun t101 => (if t101 = 0 then ((feature_codebook.f k x1).bind fun t102 => (if t102 = true then (if (x0.length : Int) > 0 then (if 0 < (x0.length : Int) then (if 0 < (x1.length : Int) then (if ((rd_L2 x0 0).length : Int) = ((rd_L2 x1 0).length : Int) then (some 0) else (some 2)) else (none)) else (none)) else (some 0)) else (some 2))) else (some 2)))
def feature_fits.f (k : Nat) (l0 : List (List Int)) (l1 : List (List Int)) : Option (Int) := if (l0.length : Int) > 10000 then (feature_fits.j0 k l0 l1 true) else (feature_fits.j0 k l0 l1 (decide ((l1.length : Int) > 10000)))
theorem feature_fits.mono_l : ∀ k, (∀ y0 y1 y2, LeO (feature_fits.j0 k y0 y1 y2) (feature_fits.j0 (k + 1) y0 y1 y2))
 | 0 => fun _ _ _ r h => by simp [feature_fits.j0] at h
 | k + 1 => by
  have ih0 := feature_fits.mono_l k
  ·intro y0 y1 y2
   unfold feature_fits.j0
   repeat' first
   | (with_reducible exact ih0 _ _ _)
   | (with_reducible exact feature_codebook.mono _ _)
   | (with_reducible exact feature_vectors.mono _ _)
   | (with_reducible exact LeO.refl _)
   | (with_reducible exact LeO.none _)
   | (with_reducible refine LeO.ite ?_ ?_)
   | (with_reducible refine LeO.bind ?_ (fun _ => ?_))
   | exact ih0 _ _ _
   | exact feature_codebook.mono _ _
   | exact feature_vectors.mono _ _
   | exact LeO.none _
   | refine LeO.ite ?_ ?_
   | refine LeO.bind ?_ (fun _ => ?_)
theorem feature_fits.mono : ∀ a0 a1 k, LeO (feature_fits.f k a0 a1) (feature_fits.f (k + 1) a0 a1) := by
 intro a0 a1 k
 have ih0 := feature_fits.mono_l k
 unfold feature_fits.f
 repeat' first
   | (with_reducible exact ih0 _ _ _)
   | (with_reducible exact feature_codebook.mono _ _)
   | (with_reducible exact feature_vectors.mono _ _)
   | (with_reducible exact LeO.refl _)
   | (with_reducible exact LeO.none _)
   | (with_reducible refine LeO.ite ?_ ?_)
   | (with_reducible refine LeO.bind ?_ (fun _ => ?_))
   | exact ih0 _ _ _
   | exact feature_codebook.mono _ _
   | exact feature_vectors.mono _ _
   | exact LeO.none _
   | refine LeO.ite ?_ ?_
   | refine LeO.bind ?_ (fun _ => ?_)
def feature_fits.T3 : Bool × List (List Nat × List Nat) := (true, [([], []), ([0], [0]), ([1], [1]), ([2, 1], [2]), ([3], [3]), ([4, 3, 3], [3, 4]), ([5, 3], [3, 5]), ([3, 6], [3, 6]), ([7, 5], [7]), ([8], [8]), ([9, 8], [8, 9]), ([10, 8], [8, 10]), ([11, 8, 8], [8, 11]), ([12], [12]), ([13, 12], [12, 13]), ([14, 12], [12, 14]), ([15, 12], [12, 15]), ([12], [12]), ([17, 12], [12, 17]), ([18, 12], [12, 18]), ([19, 12], [12, 19]), ([16, 20, 12], [12, 16, 20]), ([12, 21, 8], [8, 12, 21]), ([8, 22], [8, 22])])
def feature_fits.B3 : List Nat := [0, 1, 3, 7, 15, 31, 63, 127, 255, 511, 1023, 2047, 4095, 8191, 16383, 32767, 65535, 8191, 139263, 401407, 925695, 2097151, 4194303, 8388607]
theorem feature_fits.tab3 : rtab .any (opsOf Tryd.f100 3) = feature_fits.T3 := by kernel_rfl
theorem feature_fits.bits3 : waitsOk feature_fits.T3.2 feature_fits.B3 = true := by kernel_rfl
set_option maxHeartbeats 8000000 in
set_option maxRecDepth 100000 in
theorem feature_fits.calls (k : Nat) (A0 : Option Addr) (c0 : Nat) (l0 : List (List Int)) (A1 : Option Addr) (c1 : Nat) (l1 : List (List Int)) (r : Int) (w : World) (hr0 : Kd.C (Kd.slice 3 (Kd.int .i64)) w A0 l0.length l0) (hc0 : l0.length ≤ c0) (hr1 : Kd.C (Kd.slice 3 (Kd.int .i64)) w A1 l1.length l1) (hc1 : l1.length ≤ c1) (h : feature_fits.f k l0 l1 = some r) :
  Calls Tryd.prog 100 #[.slice A0 l0.length c0, .slice A1 l1.length c1] w fun e w' => e = .returned (.int .i64 r) ∧ Below w.heap.size w w' := by
 have HR0 := Aside0.mk hr0
 have HC0 := Aside0.mk hc0
 clear hr0 hc0
 have HR1 := Aside0.mk hr1
 have HC1 := Aside0.mk hc1
 clear hr1 hc1
 have HB := Aside0.mk (Below.refl w.heap.size w)
 have H : (if (l0.length : Int) > 10000 then (feature_fits.j0 k l0 l1 true) else (feature_fits.j0 k l0 l1 (decide ((l1.length : Int) > 10000)))) = some r := h
 clear h
 have HC3 := Aside0.mk H
 clear H
 go_enter Tryd.func100, Tryd.ntmps100
 go_upto_region 1 with (fail)
 go_cut [12] (fun v12 wc => ∃ (kq : Nat) (x12_2 : Bool), v12 = .bool x12_2 ∧ Aside0 (feature_fits.j0 kq l0 l1 x12_2 = some r) ∧ Aside0 (kq ≤ k) ∧ Aside0 (Below w.heap.size w wc))
 case first =>
  have H := HC3.out
  clear HC3
  by_cases c4 : (l0.length : Int) > 10000
  ·rw [if_pos c4] at H
   have c4b0 : decide (10000 < (l0.length : Int)) = true := decide_eq_true c4
   have c4b1 : decide (10000 < l0.length) = true := decide_eq_true (by omega)
   clear c4
   (first | rw [c4b0] | (simp only [i64_w, i32_w]; rw [c4b0]) | skip)
   have H' := Aside0.mk H
   clear H
   go_wp2
   go_meet
   case rel => exact ⟨_, (true), (by first | rfl | (simp; done) | (simp only [i64_w]; done) | (simp [*]; done)), H', ⟨by first | omega | exact Nat.le_refl _⟩, ⟨tB⟩⟩
  ·rw [if_neg c4] at H
   have c4b0 : decide (10000 < (l0.length : Int)) = false := decide_eq_false c4
   have c4b1 : decide (10000 < l0.length) = false := decide_eq_false (by omega)
   clear c4
   (first | rw [c4b0] | (simp only [i64_w, i32_w]; rw [c4b0]) | skip)
   have H' := Aside0.mk H
   clear H
   go_wp2
   go_meet
   case rel => exact ⟨_, (decide ((l1.length : Int) > 10000)), (by first | rfl | (simp; done) | (simp only [i64_w]; done) | (simp [*]; done)), H', ⟨by first | omega | exact Nat.le_refl _⟩, ⟨tB⟩⟩
 case rest =>
  clear HC3
  try clear c1
  try clear p2
  try clear c4
  try clear c4b0
  try clear c4b1
  obtain ⟨kq, x12_2, rfl, HA, HJ2, HB⟩ := hcut
  cases kq with
  | zero => exact absurd HA.out (by simp [feature_fits.j0])
  | succ kj2 =>
   have H := HA.out
   clear HA
   simp only [feature_fits.j0] at H
   by_cases c5 : x12_2 = true
   ·subst c5
    have H1 : (some 5) = some r := by rw [if_pos rfl] at H; exact H
    clear H
    have H := H1
    clear H1
    obtain rfl := Option.some.inj H
    go_wp2
    go_ret
    exact ⟨by first | rfl | (simp [errW_none, errW_some] <;> rfl) | (simp [*, errW_none, errW_some] <;> rfl), tB⟩
   ·replace c5 := Bool.eq_false_iff.mpr c5
    subst c5
    have H1 : ((feature_vectors.f kj2 l0).bind fun t101 => (if t101 = 0 then ((feature_codebook.f kj2 l1).bind fun t102 => (if t102 = true then (if (l0.length : Int) > 0 then (if 0 < (l0.length : Int) then (if 0 < (l1.length : Int) then (if ((rd_L2 l0 0).length : Int) = ((rd_L2 l1 0).length : Int) then (some 0) else (some 2)) else (none)) else (none)) else (some 0)) else (some 2))) else (some 2))) = some r := by rw [if_neg (show ¬ (false = true) by decide)] at H; exact H
    clear H
    have H := H1
    clear H1
    replace H := Option.bind_eq_some_iff.mp H
    obtain ⟨t101, A60, H⟩ := H
    try dsimp only at H
    have A6 := Aside0.mk A60
    clear A60
    by_cases c7 : t101 = 0
    ·rw [if_pos c7] at H
     have c7b0 : (t101 == 0) = true := beq_iff_eq.mpr c7
     have c7b1 : (t101 != 0) = false := bne_eq_false_iff_eq.mpr c7
     clear c7
     replace H := Option.bind_eq_some_iff.mp H
     obtain ⟨t102, A80, H⟩ := H
     try dsimp only at H
     have A8 := Aside0.mk A80
     clear A80
     by_cases c9 : t102 = true
     ·subst c9
      have H1 : (if (l0.length : Int) > 0 then (if 0 < (l0.length : Int) then (if 0 < (l1.length : Int) then (if ((rd_L2 l0 0).length : Int) = ((rd_L2 l1 0).length : Int) then (some 0) else (some 2)) else (none)) else (none)) else (some 0)) = some r := by rw [if_pos rfl] at H; exact H
      clear H
      have H := H1
      clear H1
      by_cases c10 : (l0.length : Int) > 0
      ·rw [if_pos c10] at H
       have c10b0 : decide (0 < (l0.length : Int)) = true := decide_eq_true c10
       have c10b1 : decide (0 < l0.length) = true := decide_eq_true (by omega)
       clear c10
       by_cases c11 : 0 < (l0.length : Int)
       ·rw [if_pos c11] at H
        have c11b0 := decide_eq_true c11
        have c11b1 : decide (0 < l0.length) = true := decide_eq_true (by omega)
        clear c11
        by_cases c12 : 0 < (l1.length : Int)
        ·rw [if_pos c12] at H
         have c12b0 := decide_eq_true c12
         have c12b1 : decide (0 < l1.length) = true := decide_eq_true (by omega)
         clear c12
         by_cases c13 : ((rd_L2 l0 0).length : Int) = ((rd_L2 l1 0).length : Int)
         ·rw [if_pos c13] at H
          have c13b0 : (((rd_L2 l0 0).length : Int) == ((rd_L2 l1 0).length : Int)) = true := beq_iff_eq.mpr c13
          have c13b1 : (((rd_L2 l0 0).length : Int) != ((rd_L2 l1 0).length : Int)) = false := bne_eq_false_iff_eq.mpr c13
          have c13b2 : ((rd_L2 l0 0).length == (rd_L2 l1 0).length) = true := by first | simpa using c13 | (simp at c13 ⊢; omega)
          clear c13
          obtain rfl := Option.some.inj H
          try go_wp2
          replace HB := Aside0.mk (below_drew1 HB.out)
          have p103 : 0 ≤ (0 : Int) := (by omega)
          have q103 : 0 < (l0.length : Int) := of_decide_eq_true tA
          obtain ⟨ad103, A103_0, c103_0, e103, hx103_0, hl103_0, hi103_0⟩ := at_L2 HR0.out 0 p103 q103
          have hw103_0 := hx103_0
          (try rw [show ((0 : Int)).toNat = 0 from rfl] at hw103_0)
          (try rw [show 0 * 1 = 0 from rfl] at hw103_0)
          (try rw [Addr.add_zero'] at hw103_0)
          cases e103
          have qi103 : (0 < l0.length) = True := eq_true (by omega)
          (try rw [show ((0 : Int)).toNat = 0 from rfl] at hx103_0)
          (try rw [Addr.add_zero'] at hx103_0)
          replace hx103_0 := (HB.out.cell (World.block_lt_of_cell? w _ hx103_0)).trans hx103_0
          have HR103_0 := Aside0.mk hi103_0
          have HC103_0 := Aside0.mk hl103_0
          clear hi103_0 hl103_0
          replace p103 := eq_true p103
          replace q103 := eq_true q103
          have p104 : 0 ≤ (0 : Int) := (by omega)
          have q104 : 0 < (l1.length : Int) := of_decide_eq_true tA
          obtain ⟨ad104, A104_0, c104_0, e104, hx104_0, hl104_0, hi104_0⟩ := at_L2 HR1.out 0 p104 q104
          have hw104_0 := hx104_0
          (try rw [show ((0 : Int)).toNat = 0 from rfl] at hw104_0)
          (try rw [show 0 * 1 = 0 from rfl] at hw104_0)
          (try rw [Addr.add_zero'] at hw104_0)
          cases e104
          have qi104 : (0 < l1.length) = True := eq_true (by omega)
          (try rw [show ((0 : Int)).toNat = 0 from rfl] at hx104_0)
          (try rw [Addr.add_zero'] at hx104_0)
          replace hx104_0 := (HB.out.cell (World.block_lt_of_cell? w _ hx104_0)).trans hx104_0
          have HR104_0 := Aside0.mk hi104_0
          have HC104_0 := Aside0.mk hl104_0
          clear hi104_0 hl104_0
          replace p104 := eq_true p104
          replace q104 := eq_true q104
          refine start_ (n := 24) (S := fun w' => w'.cell? ad103 = some (.slice A103_0 (rd_L2 l0 0).length c103_0) ∧ w'.cell? ad104 = some (.slice A104_0 (rd_L2 l1 0).length c104_0)) (ds := []) (bm 0 24) (by kernel_rfl) rfl rfl ⟨((HB.out.cell (World.block_lt_of_cell? w _ hw103_0)).trans hw103_0), ((HB.out.cell (World.block_lt_of_cell? w _ hw104_0)).trans hw104_0)⟩ (fun hHeld => ?_); refine with_tabW feature_fits.tab3 feature_fits.bits3 (fun HT_ HW_ => ?_)
          generalize wc.drew = w14 at HB HR103_0 HR104_0 hx103_0 hx104_0 hHeld ⊢
          refine pI 0 (some 13) (bm 1 24) HT_.out ?_
          refine one_ (i := 1) (N := some 14) (bm 2 24) rfl rfl (one_of HT_.out (by kernel_rfl)) (by decide) (fun K hK => ?_)
          refine goes_ Tryd.func113 (by kernel_rfl) rfl #[.slice _ l0.length c0] (by rfl) rfl rfl tL ?_
          with_reducible refine (feature_vectors.calls kj2 _ _ l0 t101 _ ?side1 ?side2 A6.out).mono ?_
          (case side1 => exact tC (Kd.C_below HR0.out HB.out))
          (case side2 => exact HC0.out)
          rintro e w15 ⟨rfl, hb⟩
          refine ⟨_, rfl, ?_⟩
          replace HB := Aside0.mk (below_step tB hb)
          (try clear hb)
          (try clear hb2)
          (try clear hk)
          (try clear hi)
          refine hK.out _ _ ⟨((HB.out.cell (World.block_lt_of_cell? w _ hw103_0)).trans hw103_0), ((HB.out.cell (World.block_lt_of_cell? w _ hw104_0)).trans hw104_0)⟩ (fun hHeld => ?_)
          clear hK K
          refine nm ?_
          refine pI 2 (some 15) (bm 3 24) HT_.out ?_
          refine pI 3 (some 16) (bm 4 24) HT_.out ?_
          refine pI 4 (some 17) (bm 5 24) HT_.out ?_
          refine one_ (i := 5) (N := some 18) (bm 6 24) rfl rfl (one_of HT_.out (by kernel_rfl)) (by decide) (fun K hK => ?_)
          refine goes_ Tryd.func143 (by kernel_rfl) rfl #[.slice _ l1.length c1] (by rfl) rfl rfl tL ?_
          with_reducible refine (feature_codebook.calls kj2 _ _ l1 true _ ?side1 ?side2 A8.out).mono ?_
          (case side1 => exact tC (Kd.C_below HR1.out HB.out))
          (case side2 => exact HC1.out)
          rintro e w16 ⟨rfl, hb⟩
          refine ⟨_, rfl, ?_⟩
          replace HB := Aside0.mk (below_step tB hb)
          (try clear hb)
          (try clear hb2)
          (try clear hk)
          (try clear hi)
          refine hK.out _ _ ⟨((HB.out.cell (World.block_lt_of_cell? w _ hw103_0)).trans hw103_0), ((HB.out.cell (World.block_lt_of_cell? w _ hw104_0)).trans hw104_0)⟩ (fun hHeld => ?_)
          clear hK K
          refine nm ?_
          refine pI 6 (some 19) (bm 7 24) HT_.out ?_
          refine pI 7 (some 20) (bm 8 24) HT_.out ?_
          refine pI 8 (some 21) (bm 9 24) HT_.out ?_
          refine pI 9 (some 22) (bm 10 24) HT_.out ?_
          refine pI 10 (some 23) (bm 11 24) HT_.out ?_
          refine pI 11 (some 24) (bm 12 24) HT_.out ?_
          refine pI 12 (some 25) (bm 13 24) HT_.out ?_
          refine pI 13 (some 26) (bm 14 24) HT_.out ?_
          refine pI 14 (some 27) (bm 15 24) HT_.out ?_
          refine pI 17 (some 30) (bq 163839 24) HT_.out ?_
          refine pI 18 (some 31) (bq 425983 24) HT_.out ?_
          refine tk2 15 (some 28) (bq 458751 24) HT_.out HW_.out hHeld ?_
          refine pI 16 (some 29) (bm 19 24) HT_.out ?_
          refine tk2 19 (some 32) (bm 20 24) HT_.out HW_.out hHeld ?_
          refine pI 20 (some 33) (bm 21 24) HT_.out ?_
          refine pI 21 (some 34) (bm 22 24) HT_.out ?_
          refine pI 22 (some 35) (bm 23 24) HT_.out ?_
          refine pI 23 (some 36) (bm 24 24) HT_.out ?_
          refine done_ (done_of HT_.out (by kernel_rfl)) ?_
          try go_wp2
          go_ret
          exact ⟨by first | rfl | (simp [errW_none, errW_some] <;> rfl) | (simp [*, errW_none, errW_some] <;> rfl), tB⟩
         ·rw [if_neg c13] at H
          have c13b0 : (((rd_L2 l0 0).length : Int) == ((rd_L2 l1 0).length : Int)) = false := beq_eq_false_iff_ne.mpr c13
          have c13b1 : (((rd_L2 l0 0).length : Int) != ((rd_L2 l1 0).length : Int)) = true := bne_iff_ne.mpr c13
          have c13b2 : ((rd_L2 l0 0).length == (rd_L2 l1 0).length) = false := by first | simpa using c13 | (simp at c13 ⊢; omega)
          obtain rfl := Option.some.inj H
          try go_wp2
          replace HB := Aside0.mk (below_drew1 HB.out)
          have p103 : 0 ≤ (0 : Int) := (by omega)
          have q103 : 0 < (l0.length : Int) := of_decide_eq_true tA
          obtain ⟨ad103, A103_0, c103_0, e103, hx103_0, hl103_0, hi103_0⟩ := at_L2 HR0.out 0 p103 q103
          have hw103_0 := hx103_0
          (try rw [show ((0 : Int)).toNat = 0 from rfl] at hw103_0)
          (try rw [show 0 * 1 = 0 from rfl] at hw103_0)
          (try rw [Addr.add_zero'] at hw103_0)
          cases e103
          have qi103 : (0 < l0.length) = True := eq_true (by omega)
          (try rw [show ((0 : Int)).toNat = 0 from rfl] at hx103_0)
          (try rw [Addr.add_zero'] at hx103_0)
          replace hx103_0 := (HB.out.cell (World.block_lt_of_cell? w _ hx103_0)).trans hx103_0
          have HR103_0 := Aside0.mk hi103_0
          have HC103_0 := Aside0.mk hl103_0
          clear hi103_0 hl103_0
          replace p103 := eq_true p103
          replace q103 := eq_true q103
          have p104 : 0 ≤ (0 : Int) := (by omega)
          have q104 : 0 < (l1.length : Int) := of_decide_eq_true tA
          obtain ⟨ad104, A104_0, c104_0, e104, hx104_0, hl104_0, hi104_0⟩ := at_L2 HR1.out 0 p104 q104
          have hw104_0 := hx104_0
          (try rw [show ((0 : Int)).toNat = 0 from rfl] at hw104_0)
          (try rw [show 0 * 1 = 0 from rfl] at hw104_0)
          (try rw [Addr.add_zero'] at hw104_0)
          cases e104
          have qi104 : (0 < l1.length) = True := eq_true (by omega)
          (try rw [show ((0 : Int)).toNat = 0 from rfl] at hx104_0)
          (try rw [Addr.add_zero'] at hx104_0)
          replace hx104_0 := (HB.out.cell (World.block_lt_of_cell? w _ hx104_0)).trans hx104_0
          have HR104_0 := Aside0.mk hi104_0
          have HC104_0 := Aside0.mk hl104_0
          clear hi104_0 hl104_0
          replace p104 := eq_true p104
          replace q104 := eq_true q104
          refine start_ (n := 24) (S := fun w' => w'.cell? ad103 = some (.slice A103_0 (rd_L2 l0 0).length c103_0) ∧ w'.cell? ad104 = some (.slice A104_0 (rd_L2 l1 0).length c104_0)) (ds := []) (bm 0 24) (by kernel_rfl) rfl rfl ⟨((HB.out.cell (World.block_lt_of_cell? w _ hw103_0)).trans hw103_0), ((HB.out.cell (World.block_lt_of_cell? w _ hw104_0)).trans hw104_0)⟩ (fun hHeld => ?_); refine with_tabW feature_fits.tab3 feature_fits.bits3 (fun HT_ HW_ => ?_)
          generalize wc.drew = w17 at HB HR103_0 HR104_0 hx103_0 hx104_0 hHeld ⊢
          refine pI 0 (some 13) (bm 1 24) HT_.out ?_
          refine one_ (i := 1) (N := some 14) (bm 2 24) rfl rfl (one_of HT_.out (by kernel_rfl)) (by decide) (fun K hK => ?_)
          refine goes_ Tryd.func113 (by kernel_rfl) rfl #[.slice _ l0.length c0] (by rfl) rfl rfl tL ?_
          with_reducible refine (feature_vectors.calls kj2 _ _ l0 t101 _ ?side1 ?side2 A6.out).mono ?_
          (case side1 => exact tC (Kd.C_below HR0.out HB.out))
          (case side2 => exact HC0.out)
          rintro e w18 ⟨rfl, hb⟩
          refine ⟨_, rfl, ?_⟩
          replace HB := Aside0.mk (below_step tB hb)
          (try clear hb)
          (try clear hb2)
          (try clear hk)
          (try clear hi)
          refine hK.out _ _ ⟨((HB.out.cell (World.block_lt_of_cell? w _ hw103_0)).trans hw103_0), ((HB.out.cell (World.block_lt_of_cell? w _ hw104_0)).trans hw104_0)⟩ (fun hHeld => ?_)
          clear hK K
          refine nm ?_
          refine pI 2 (some 15) (bm 3 24) HT_.out ?_
          refine pI 3 (some 16) (bm 4 24) HT_.out ?_
          refine pI 4 (some 17) (bm 5 24) HT_.out ?_
          refine one_ (i := 5) (N := some 18) (bm 6 24) rfl rfl (one_of HT_.out (by kernel_rfl)) (by decide) (fun K hK => ?_)
          refine goes_ Tryd.func143 (by kernel_rfl) rfl #[.slice _ l1.length c1] (by rfl) rfl rfl tL ?_
          with_reducible refine (feature_codebook.calls kj2 _ _ l1 true _ ?side1 ?side2 A8.out).mono ?_
          (case side1 => exact tC (Kd.C_below HR1.out HB.out))
          (case side2 => exact HC1.out)
          rintro e w19 ⟨rfl, hb⟩
          refine ⟨_, rfl, ?_⟩
          replace HB := Aside0.mk (below_step tB hb)
          (try clear hb)
          (try clear hb2)
          (try clear hk)
          (try clear hi)
          refine hK.out _ _ ⟨((HB.out.cell (World.block_lt_of_cell? w _ hw103_0)).trans hw103_0), ((HB.out.cell (World.block_lt_of_cell? w _ hw104_0)).trans hw104_0)⟩ (fun hHeld => ?_)
          clear hK K
          refine nm ?_
          refine pI 6 (some 19) (bm 7 24) HT_.out ?_
          refine pI 7 (some 20) (bm 8 24) HT_.out ?_
          refine pI 8 (some 21) (bm 9 24) HT_.out ?_
          refine pI 9 (some 22) (bm 10 24) HT_.out ?_
          refine pI 10 (some 23) (bm 11 24) HT_.out ?_
          refine pI 11 (some 24) (bm 12 24) HT_.out ?_
          refine pI 12 (some 25) (bm 13 24) HT_.out ?_
          refine pI 13 (some 26) (bm 14 24) HT_.out ?_
          refine pI 14 (some 27) (bm 15 24) HT_.out ?_
          refine pI 17 (some 30) (bq 163839 24) HT_.out ?_
          refine pI 18 (some 31) (bq 425983 24) HT_.out ?_
          refine tk2 15 (some 28) (bq 458751 24) HT_.out HW_.out hHeld ?_
          refine pI 16 (some 29) (bm 19 24) HT_.out ?_
          refine tk2 19 (some 32) (bm 20 24) HT_.out HW_.out hHeld ?_
          refine pI 20 (some 33) (bm 21 24) HT_.out ?_
          refine pI 21 (some 34) (bm 22 24) HT_.out ?_
          refine pI 22 (some 35) (bm 23 24) HT_.out ?_
          refine pI 23 (some 36) (bm 24 24) HT_.out ?_
          refine done_ (done_of HT_.out (by kernel_rfl)) ?_
          try go_wp2
          go_ret
          exact ⟨by first | rfl | (simp [errW_none, errW_some] <;> rfl) | (simp [*, errW_none, errW_some] <;> rfl), tB⟩
        ·rw [if_neg c12] at H
         exact absurd H (by simp)
       ·rw [if_neg c11] at H
        exact absurd H (by simp)
      ·rw [if_neg c10] at H
       have c10b0 : decide (0 < (l0.length : Int)) = false := decide_eq_false c10
       have c10b1 : decide (0 < l0.length) = false := decide_eq_false (by omega)
       clear c10
       obtain rfl := Option.some.inj H
       try go_wp2
       replace HB := Aside0.mk (below_drew1 HB.out)
       refine start_ (n := 24) (S := fun w' => True) (ds := []) (bm 0 24) (by kernel_rfl) rfl rfl trivial (fun hHeld => ?_); refine with_tabW feature_fits.tab3 feature_fits.bits3 (fun HT_ HW_ => ?_)
       generalize wc.drew = w20 at HB hHeld ⊢
       refine pI 0 (some 13) (bm 1 24) HT_.out ?_
       refine one_ (i := 1) (N := some 14) (bm 2 24) rfl rfl (one_of HT_.out (by kernel_rfl)) (by decide) (fun K hK => ?_)
       refine goes_ Tryd.func113 (by kernel_rfl) rfl #[.slice _ l0.length c0] (by rfl) rfl rfl tL ?_
       with_reducible refine (feature_vectors.calls kj2 _ _ l0 t101 _ ?side1 ?side2 A6.out).mono ?_
       (case side1 => exact tC (Kd.C_below HR0.out HB.out))
       (case side2 => exact HC0.out)
       rintro e w21 ⟨rfl, hb⟩
       refine ⟨_, rfl, ?_⟩
       replace HB := Aside0.mk (below_step tB hb)
       (try clear hb)
       (try clear hb2)
       (try clear hk)
       (try clear hi)
       refine hK.out _ _ trivial (fun hHeld => ?_)
       clear hK K
       refine nm ?_
       refine pI 2 (some 15) (bm 3 24) HT_.out ?_
       refine pI 3 (some 16) (bm 4 24) HT_.out ?_
       refine pI 4 (some 17) (bm 5 24) HT_.out ?_
       refine one_ (i := 5) (N := some 18) (bm 6 24) rfl rfl (one_of HT_.out (by kernel_rfl)) (by decide) (fun K hK => ?_)
       refine goes_ Tryd.func143 (by kernel_rfl) rfl #[.slice _ l1.length c1] (by rfl) rfl rfl tL ?_
       with_reducible refine (feature_codebook.calls kj2 _ _ l1 true _ ?side1 ?side2 A8.out).mono ?_
       (case side1 => exact tC (Kd.C_below HR1.out HB.out))
       (case side2 => exact HC1.out)
       rintro e w22 ⟨rfl, hb⟩
       refine ⟨_, rfl, ?_⟩
       replace HB := Aside0.mk (below_step tB hb)
       (try clear hb)
       (try clear hb2)
       (try clear hk)
       (try clear hi)
       refine hK.out _ _ trivial (fun hHeld => ?_)
       clear hK K
       refine nm ?_
       refine pI 6 (some 19) (bm 7 24) HT_.out ?_
       refine pI 7 (some 20) (bm 8 24) HT_.out ?_
       refine pI 8 (some 21) (bm 9 24) HT_.out ?_
       refine pI 9 (some 22) (bm 10 24) HT_.out ?_
       refine pI 10 (some 23) (bm 11 24) HT_.out ?_
       refine pI 11 (some 24) (bm 12 24) HT_.out ?_
       refine pI 12 (some 25) (bm 13 24) HT_.out ?_
       refine pO 13 (some 26) (bm 14 24) HT_.out ?_
       refine pO 14 (some 27) (bm 15 24) HT_.out ?_
       refine pO 15 (some 28) (bm 16 24) HT_.out ?_
       refine pO 16 (some 29) (bm 17 24) HT_.out ?_
       refine pO 17 (some 30) (bm 18 24) HT_.out ?_
       refine pO 18 (some 31) (bm 19 24) HT_.out ?_
       refine pO 19 (some 32) (bm 20 24) HT_.out ?_
       refine pO 20 (some 33) (bm 21 24) HT_.out ?_
       refine pO 21 (some 34) (bm 22 24) HT_.out ?_
       refine pI 22 (some 35) (bm 23 24) HT_.out ?_
       refine pI 23 (some 36) (bm 24 24) HT_.out ?_
       refine done_ (done_of HT_.out (by kernel_rfl)) ?_
       try go_wp2
       go_ret
       exact ⟨by first | rfl | (simp [errW_none, errW_some] <;> rfl) | (simp [*, errW_none, errW_some] <;> rfl), tB⟩
     ·replace c9 := Bool.eq_false_iff.mpr c9
      subst c9
      have H1 : (some 2) = some r := by rw [if_neg (show ¬ (false = true) by decide)] at H; exact H
      clear H
      have H := H1
      clear H1
      obtain rfl := Option.some.inj H
      try go_wp2
      replace HB := Aside0.mk (below_drew1 HB.out)
      refine start_ (n := 24) (S := fun w' => True) (ds := []) (bm 0 24) (by kernel_rfl) rfl rfl trivial (fun hHeld => ?_); refine with_tabW feature_fits.tab3 feature_fits.bits3 (fun HT_ HW_ => ?_)
      generalize wc.drew = w23 at HB hHeld ⊢
      refine pI 0 (some 13) (bm 1 24) HT_.out ?_
      refine one_ (i := 1) (N := some 14) (bm 2 24) rfl rfl (one_of HT_.out (by kernel_rfl)) (by decide) (fun K hK => ?_)
      refine goes_ Tryd.func113 (by kernel_rfl) rfl #[.slice _ l0.length c0] (by rfl) rfl rfl tL ?_
      with_reducible refine (feature_vectors.calls kj2 _ _ l0 t101 _ ?side1 ?side2 A6.out).mono ?_
      (case side1 => exact tC (Kd.C_below HR0.out HB.out))
      (case side2 => exact HC0.out)
      rintro e w24 ⟨rfl, hb⟩
      refine ⟨_, rfl, ?_⟩
      replace HB := Aside0.mk (below_step tB hb)
      (try clear hb)
      (try clear hb2)
      (try clear hk)
      (try clear hi)
      refine hK.out _ _ trivial (fun hHeld => ?_)
      clear hK K
      refine nm ?_
      refine pI 2 (some 15) (bm 3 24) HT_.out ?_
      refine pI 3 (some 16) (bm 4 24) HT_.out ?_
      refine pI 4 (some 17) (bm 5 24) HT_.out ?_
      refine one_ (i := 5) (N := some 18) (bm 6 24) rfl rfl (one_of HT_.out (by kernel_rfl)) (by decide) (fun K hK => ?_)
      refine goes_ Tryd.func143 (by kernel_rfl) rfl #[.slice _ l1.length c1] (by rfl) rfl rfl tL ?_
      with_reducible refine (feature_codebook.calls kj2 _ _ l1 false _ ?side1 ?side2 A8.out).mono ?_
      (case side1 => exact tC (Kd.C_below HR1.out HB.out))
      (case side2 => exact HC1.out)
      rintro e w25 ⟨rfl, hb⟩
      refine ⟨_, rfl, ?_⟩
      replace HB := Aside0.mk (below_step tB hb)
      (try clear hb)
      (try clear hb2)
      (try clear hk)
      (try clear hi)
      refine hK.out _ _ trivial (fun hHeld => ?_)
      clear hK K
      refine nm ?_
      refine pI 6 (some 19) (bm 7 24) HT_.out ?_
      refine pI 7 (some 20) (bm 8 24) HT_.out ?_
      refine pI 8 (some 21) (bm 9 24) HT_.out ?_
      refine pO 9 (some 22) (bm 10 24) HT_.out ?_
      refine pO 10 (some 23) (bm 11 24) HT_.out ?_
      refine pO 11 (some 24) (bm 12 24) HT_.out ?_
      refine pO 12 (some 25) (bm 13 24) HT_.out ?_
      refine pO 13 (some 26) (bm 14 24) HT_.out ?_
      refine pO 14 (some 27) (bm 15 24) HT_.out ?_
      refine pO 15 (some 28) (bm 16 24) HT_.out ?_
      refine pO 16 (some 29) (bm 17 24) HT_.out ?_
      refine pO 17 (some 30) (bm 18 24) HT_.out ?_
      refine pO 18 (some 31) (bm 19 24) HT_.out ?_
      refine pO 19 (some 32) (bm 20 24) HT_.out ?_
      refine pO 20 (some 33) (bm 21 24) HT_.out ?_
      refine pO 21 (some 34) (bm 22 24) HT_.out ?_
      refine pO 22 (some 35) (bm 23 24) HT_.out ?_
      refine pI 23 (some 36) (bm 24 24) HT_.out ?_
      refine done_ (done_of HT_.out (by kernel_rfl)) ?_
      try go_wp2
      go_ret
      exact ⟨by first | rfl | (simp [errW_none, errW_some] <;> rfl) | (simp [*, errW_none, errW_some] <;> rfl), tB⟩
    ·rw [if_neg c7] at H
     have c7b0 : (t101 == 0) = false := beq_eq_false_iff_ne.mpr c7
     have c7b1 : (t101 != 0) = true := bne_iff_ne.mpr c7
     obtain rfl := Option.some.inj H
     try go_wp2
     replace HB := Aside0.mk (below_drew1 HB.out)
     refine start_ (n := 24) (S := fun w' => True) (ds := []) (bm 0 24) (by kernel_rfl) rfl rfl trivial (fun hHeld => ?_); refine with_tabW feature_fits.tab3 feature_fits.bits3 (fun HT_ HW_ => ?_)
     generalize wc.drew = w26 at HB hHeld ⊢
     refine pI 0 (some 13) (bm 1 24) HT_.out ?_
     refine one_ (i := 1) (N := some 14) (bm 2 24) rfl rfl (one_of HT_.out (by kernel_rfl)) (by decide) (fun K hK => ?_)
     refine goes_ Tryd.func113 (by kernel_rfl) rfl #[.slice _ l0.length c0] (by rfl) rfl rfl tL ?_
     with_reducible refine (feature_vectors.calls kj2 _ _ l0 t101 _ ?side1 ?side2 A6.out).mono ?_
     (case side1 => exact tC (Kd.C_below HR0.out HB.out))
     (case side2 => exact HC0.out)
     rintro e w27 ⟨rfl, hb⟩
     refine ⟨_, rfl, ?_⟩
     replace HB := Aside0.mk (below_step tB hb)
     (try clear hb)
     (try clear hb2)
     (try clear hk)
     (try clear hi)
     refine hK.out _ _ trivial (fun hHeld => ?_)
     clear hK K
     refine nm ?_
     refine pI 2 (some 15) (bm 3 24) HT_.out ?_
     refine pI 3 (some 16) (bm 4 24) HT_.out ?_
     refine pO 4 (some 17) (bm 5 24) HT_.out ?_
     refine pO 5 (some 18) (bm 6 24) HT_.out ?_
     refine pO 6 (some 19) (bm 7 24) HT_.out ?_
     refine pI 7 (some 20) (bm 8 24) HT_.out ?_
     refine pI 8 (some 21) (bm 9 24) HT_.out ?_
     refine pO 9 (some 22) (bm 10 24) HT_.out ?_
     refine pO 10 (some 23) (bm 11 24) HT_.out ?_
     refine pO 11 (some 24) (bm 12 24) HT_.out ?_
     refine pO 12 (some 25) (bm 13 24) HT_.out ?_
     refine pO 13 (some 26) (bm 14 24) HT_.out ?_
     refine pO 14 (some 27) (bm 15 24) HT_.out ?_
     refine pO 15 (some 28) (bm 16 24) HT_.out ?_
     refine pO 16 (some 29) (bm 17 24) HT_.out ?_
     refine pO 17 (some 30) (bm 18 24) HT_.out ?_
     refine pO 18 (some 31) (bm 19 24) HT_.out ?_
     refine pO 19 (some 32) (bm 20 24) HT_.out ?_
     refine pO 20 (some 33) (bm 21 24) HT_.out ?_
     refine pO 21 (some 34) (bm 22 24) HT_.out ?_
     refine pO 22 (some 35) (bm 23 24) HT_.out ?_
     refine pI 23 (some 36) (bm 24 24) HT_.out ?_
     refine done_ (done_of HT_.out (by kernel_rfl)) ?_
     try go_wp2
     go_ret
     exact ⟨by first | rfl | (simp [errW_none, errW_some] <;> rfl) | (simp [*, errW_none, errW_some] <;> rfl), tB⟩

end Go.Proofs.YtdlbmbijobcljaaDoor.X

-- By a program of this session's own (wip/print), after the kit's print.
namespace Go.Proofs.YtdlbmbijobcljaaDoor.X
open Go.RowKit Go.Proofs.YtdlbmbijobcljaaDoorW.PrintWords Go.Proofs.YtdlbmbijobcljaaDoorW.PrintLast Go.Proofs.YtdlbmbijobcljaaDoorW.PrintMore
attribute [local go_sem] max2_int min2_int max_two min_two max_three min_three max_four min_four   -- for this text's walks alone
set_option linter.unusedVariables false
set_option linter.unusedSimpArgs false

/-! ### feature_Improve: function 75 -/
def feature_Improve.f (k : Nat) (l0 : List (List Int)) (l1 : List (List Int)) : Option ((List (List Int)) × Int) := (feature_fits.f k l0 l1).bind fun t101 => (if t101 = 0 then ((feature_improved.f k l0 l1).bind fun t102 => (some (t102, 0))) else (some (([] : List (List Int)), t101)))
theorem feature_Improve.mono : ∀ a0 a1 k, LeO (feature_Improve.f k a0 a1) (feature_Improve.f (k + 1) a0 a1) := by
 intro a0 a1 k
 unfold feature_Improve.f
 repeat' first
   | (with_reducible exact feature_fits.mono _ _ _)
   | (with_reducible exact feature_improved.mono _ _ _)
   | (with_reducible exact LeO.refl _)
   | (with_reducible exact LeO.none _)
   | (with_reducible refine LeO.ite ?_ ?_)
   | (with_reducible refine LeO.bind ?_ (fun _ => ?_))
   | exact feature_fits.mono _ _ _
   | exact feature_improved.mono _ _ _
   | exact LeO.none _
   | refine LeO.ite ?_ ?_
   | refine LeO.bind ?_ (fun _ => ?_)
set_option maxHeartbeats 8000000 in
set_option maxRecDepth 100000 in
theorem feature_Improve.calls (k : Nat) (A0 : Option Addr) (c0 : Nat) (l0 : List (List Int)) (A1 : Option Addr) (c1 : Nat) (l1 : List (List Int)) (r1 : List (List Int)) (r2 : Int) (w : World) (hr0 : Kd.C (Kd.slice 3 (Kd.int .i64)) w A0 l0.length l0) (hc0 : l0.length ≤ c0) (hr1 : Kd.C (Kd.slice 3 (Kd.int .i64)) w A1 l1.length l1) (hc1 : l1.length ≤ c1) (h : feature_Improve.f k l0 l1 = some (r1, r2)) :
  Calls Tryd.prog 75 #[.slice A0 l0.length c0, .slice A1 l1.length c1] w fun e w' => ∃ v0_ : Value, e = .returned (.tuple #[v0_, .int .i64 r2]) ∧ Kd.S (Kd.slice 3 (Kd.int .i64)) 22 w' w.heap.size (fun _ => True) v0_ r1 ∧ Below w.heap.size w w' := by
 have HR0 := Aside0.mk hr0
 have HC0 := Aside0.mk hc0
 clear hr0 hc0
 have HR1 := Aside0.mk hr1
 have HC1 := Aside0.mk hc1
 clear hr1 hc1
 have HB := Aside0.mk (Below.refl w.heap.size w)
 have H : ((feature_fits.f k l0 l1).bind fun t101 => (if t101 = 0 then ((feature_improved.f k l0 l1).bind fun t102 => (some (t102, 0))) else (some (([] : List (List Int)), t101)))) = some (r1, r2) := h
 clear h
 replace H := Option.bind_eq_some_iff.mp H
 obtain ⟨t101, A30, H⟩ := H
 try dsimp only at H
 have A3 := Aside0.mk A30
 clear A30
 by_cases c4 : t101 = 0
 ·rw [if_pos c4] at H
  have c4b0 : (t101 == 0) = true := beq_iff_eq.mpr c4
  have c4b1 : (t101 != 0) = false := bne_eq_false_iff_eq.mpr c4
  clear c4
  replace H := Option.bind_eq_some_iff.mp H
  obtain ⟨t102, A50, H⟩ := H
  try dsimp only at H
  have A5 := Aside0.mk A50
  clear A50
  simp only [Option.some.injEq, Prod.mk.injEq] at H
  obtain ⟨rfl, rfl⟩ := H
  go_enter Tryd.func75, Tryd.ntmps75
  go_wp2_with (first | ((with_reducible refine gate_callee (f := 100) rfl ?_); refine goesL_ (some 9) rfl rfl Tryd.func100 (by kernel_rfl) rfl #[.slice A0 l0.length c0, .slice A1 l1.length c1] rfl tL ?_; (with_reducible refine (feature_fits.calls k _ _ l0 _ _ l1 t101 _ ?side1 ?side2 ?side3 ?side4 A3.out).mono ?_); (case side1 => exact tC HR0.out); (case side2 => exact HC0.out); (case side3 => exact tC HR1.out); (case side4 => exact HC1.out); rintro e w6 ⟨rfl, hb⟩; refine ⟨_, rfl, ?_⟩; replace HB := Aside0.mk (below_step tB hb); (try clear hb); (try clear hb2); (try clear hk); (try clear hi)) | ((with_reducible refine gate_callee (f := 121) rfl ?_); refine goesL_ (some 15) rfl rfl Tryd.func121 (by kernel_rfl) rfl #[.slice A0 l0.length c0, .slice A1 l1.length c1] rfl tL ?_; (with_reducible refine (feature_improved.calls k _ _ l0 _ _ l1 t102 _ ?side1 ?side2 ?side3 ?side4 A5.out).mono ?_); (case side1 => exact tC (Kd.C_below HR0.out HB.out)); (case side2 => exact HC0.out); (case side3 => exact tC (Kd.C_below HR1.out HB.out)); (case side4 => exact HC1.out); rintro e w7 ⟨v103, rfl, ho0, hb⟩; refine ⟨_, rfl, ?_⟩; have HO104 := Aside0.mk (Kd.S_lower ho0 (below_size tB)); replace HB := Aside0.mk (below_step tB hb); (try clear hb); (try clear hb2); (try clear hk); (try clear hi); (try clear ho0)))
  go_ret2
  exact ⟨_, by first | rfl | (simp [errW_none, errW_some] <;> rfl) | (simp [*, errW_none, errW_some] <;> rfl), tS HO104.out, tB⟩
 ·rw [if_neg c4] at H
  have c4b0 : (t101 == 0) = false := beq_eq_false_iff_ne.mpr c4
  have c4b1 : (t101 != 0) = true := bne_iff_ne.mpr c4
  simp only [Option.some.injEq, Prod.mk.injEq] at H
  obtain ⟨rfl, rfl⟩ := H
  go_enter Tryd.func75, Tryd.ntmps75
  go_wp2_with (first | ((with_reducible refine gate_callee (f := 100) rfl ?_); refine goesL_ (some 9) rfl rfl Tryd.func100 (by kernel_rfl) rfl #[.slice A0 l0.length c0, .slice A1 l1.length c1] rfl tL ?_; (with_reducible refine (feature_fits.calls k _ _ l0 _ _ l1 t101 _ ?side1 ?side2 ?side3 ?side4 A3.out).mono ?_); (case side1 => exact tC HR0.out); (case side2 => exact HC0.out); (case side3 => exact tC HR1.out); (case side4 => exact HC1.out); rintro e w8 ⟨rfl, hb⟩; refine ⟨_, rfl, ?_⟩; replace HB := Aside0.mk (below_step tB hb); (try clear hb); (try clear hb2); (try clear hk); (try clear hi)))
  go_ret2
  exact ⟨_, by first | rfl | (simp [errW_none, errW_some] <;> rfl) | (simp [*, errW_none, errW_some] <;> rfl), by first | exact Kd.S_nil _ _ _ _ _ | exact Kd.N_nil _ _ _ _ _ | exact Kd.V_nil _ _ _ _ _ | exact Kd.Q_nil _ _ _ _ _ | exact Kd.R_nil _ _ _ _ _, tB⟩

end Go.Proofs.YtdlbmbijobcljaaDoor.X

namespace Go.Proofs.YtdlbmbijobcljaaDoor.X
open Go.RowKit Go.Proofs.YtdlbmbijobcljaaDoorW.PrintWords Go.Proofs.YtdlbmbijobcljaaDoorW.PrintLast Go.Proofs.YtdlbmbijobcljaaDoorW.PrintMore
set_option linter.unusedVariables false
set_option linter.unusedSimpArgs false

def slices_Clone_int_int.f (l0 : List Int) : Option (List Int) := (some (([] : List Int) : List Int)).bind fun y101 => (if y101.length + l0.length < 17592186044416 then (some (y101 ++ l0)) else (none))
set_option maxHeartbeats 8000000 in
set_option maxRecDepth 100000 in
theorem clone_some (a : Addr) (c0 : Nat) (l0 : List Int) (r : List Int) (w : World) (hr0 : Kd.C (Kd.int .i64) w (some a) l0.length l0) (hc0 : l0.length ≤ c0) (h : slices_Clone_int_int.f l0 = some r) :
    Calls Tryd.prog 99 #[.slice (some a) l0.length c0] w fun e w' => ∃ v0_ : Value, e = .returned (v0_) ∧ Kd.R (Kd.int .i64) 3 w' w.heap.size (fun _ => True) v0_ r ∧ Below w.heap.size w w' := by
  have he := fun (W : World) => Lib.run_eql_slice_nil (P := Tryd.prog) W 22 3 (some a) l0.length c0 0 0 Tryd.underlying22
  have HR0 := Aside0.mk hr0
  have HC0 := Aside0.mk hc0
  clear hr0 hc0
  have HB := Aside0.mk (Below.refl w.heap.size w)
  have H : ((some (([] : List Int) : List Int)).bind fun y101 => (if y101.length + l0.length < 17592186044416 then (some (y101 ++ l0)) else (none))) = some r := h
  clear h
  obtain ⟨y101, hy101⟩ : ∃ y_ : List Int, y_ = (([] : List Int)) := ⟨_, rfl⟩
  replace H : (if y101.length + l0.length < 17592186044416 then (some (y101 ++ l0)) else (none)) = some r := by first | (rw [hy101]; with_reducible exact H) | (have H2_ := (Option.bind_some _ _).symm.trans H; rw [hy101]; with_reducible exact H2_) | (have H2_ := (Option.bind_some _ _).symm.trans H; with_reducible exact H2_) | with_reducible exact H | (rw [hy101]; exact H) | exact H
  have Ny101 := Aside0.mk hy101
  clear hy101
  by_cases c2 : y101.length + l0.length < 17592186044416
  · rw [if_pos c2] at H
    have LMc2 := Aside0.mk c2
    clear c2
    obtain ⟨y104, hy104⟩ : ∃ y_ : List Int, y_ = (y101 ++ l0) := ⟨_, rfl⟩
    replace H : (some y104) = some r := by first | (rw [hy104]; with_reducible exact H) | (have H2_ := (Option.bind_some _ _).symm.trans H; rw [hy104]; with_reducible exact H2_) | (have H2_ := (Option.bind_some _ _).symm.trans H; with_reducible exact H2_) | with_reducible exact H | (rw [hy104]; exact H) | exact H
    have Ny104 := Aside0.mk hy104
    clear hy104
    obtain rfl := Option.some.inj H
    go_enter Tryd.func99, Tryd.ntmps99
    go_wp2_with (first | ((with_reducible refine gate_dst (N := 5) rfl ?_); refine Kd.R_lit (Kd.int .i64) _ 3 ?hg (N := 5) ?hd (xs := ([] : List Int)) (inner := []) (ok := fun _ => True) (okp := fun _ => True) ?hr ?hp (fun _ hk => hk) trivial (Below.refl _ _) (Nat.le_refl _) (by simp) ?_; (case hd => rfl); (case hg => rfl); (case hr => first | (go_simp; done) | (go_simp; rfl)); (case hp => exact (Reps.none _ _)); intro v102 w3 ho4 hb hg_ hnew_; clear hg_ hnew_; (first | rw [← Ny101.out] at ho4 | (simp only [Int.reduceToNat] at ho4; rw [← Ny101.out] at ho4)); have n0_ := Aside0.mk (Kd.R_lower ho4 (below_size (by repeat (first | (with_reducible first | exact HB.out | apply below_alloc | apply pw_below_drewN | apply below_drew1) | exact HB.out)))); have n1_ := Aside0.mk (below_step (by repeat (first | (with_reducible first | exact HB.out | apply below_alloc | apply pw_below_drewN | apply below_drew1) | exact HB.out)) hb); clear HB; have HO103 := n0_; have HB := n1_; clear n0_ n1_; clear hb ho4) | ((with_reducible refine gate_builtin (b := .append) (xs := #[.tmp 5, .tmp 6]) rfl ?_); at_builtin; refine Kd.R_append_rows (Kd.int .i64) (w0 := w) w.heap.size rfl (.tmp 5) (.tmp 6) 22 3 (.int .i64 0) 8 rfl Tryd.underlying22 info3 rfl (by decide) (by omega) v102 y101 l0 _ _ _ (fun _ => True) (fun _ => False) rfl rfl ?aO ?aR (fun _ _ h => h) (fun _ h => h.elim) ?aF ?aB ?aS ?aL ?_; (case aR => repeat (first | exact (Kd.C_below HR0.out HB.out) | (with_reducible refine Kd.C_alloc ?_ _) | (with_reducible refine Kd.C_drewN ?_ _) | (with_reducible refine Kd.C_drew ?_))); (case aB => exact (by repeat (first | (with_reducible first | exact HB.out | apply below_alloc | apply pw_below_drewN | apply below_drew1) | exact HB.out))); (case aF => exact (fun _ _ => trivial)); (case aO => exact (by (with_reducible repeat (first | apply Kd.R_alloc | apply Kd.R_drewN | apply Kd.R_drew)); exact HO103.out)); (case aS => exact (below_size (by repeat (first | (with_reducible first | exact HB.out | apply below_alloc | apply pw_below_drewN | apply below_drew1) | exact HB.out)))); (case aL => have := LMc2.out; omega); intro v105 w5 ho hb hg hat; rw [← Ny104.out] at ho; have n0_ := Aside0.mk (hb); have n1_ := Aside0.mk (ho); clear HB; clear HO103; have HB := n0_; have HO106 := n1_; clear n0_ n1_; clear ho hb hg hat))
    go_ret
    exact ⟨_, by first | rfl | (simp [errW_none, errW_some] <;> rfl) | (simp [*, errW_none, errW_some] <;> rfl), by (with_reducible repeat (first | apply Kd.R_alloc | apply Kd.R_drewN | apply Kd.R_drew)); exact HO106.out, by repeat (first | (with_reducible first | exact HB.out | apply below_alloc | apply pw_below_drewN | apply below_drew1) | exact HB.out)⟩
  · rw [if_neg c2] at H
    exact absurd H (by simp)
set_option maxHeartbeats 8000000 in
set_option maxRecDepth 100000 in
theorem clone_none (c0 : Nat) (w : World) :
    Calls Tryd.prog 99 #[.slice none 0 c0] w fun e w' => e = .returned (.slice none 0 0) ∧ Drawn0 w w' := by
  have he := fun (W : World) => Lib.run_eql_slice_nil (P := Tryd.prog) W 22 3 none 0 c0 0 0 Tryd.underlying22
  go_enter Tryd.func99, Tryd.ntmps99
  go_wp2
  go_ret
  exact ⟨rfl, Drawn0.refl _⟩
theorem slices_Clone_int_int.calls (A0 : Option Addr) (c0 : Nat) (l0 : List Int) (r : List Int) (w : World) (hr0 : Kd.C (Kd.int .i64) w A0 l0.length l0) (hc0 : l0.length ≤ c0) (h : slices_Clone_int_int.f l0 = some r) :
    Calls Tryd.prog 99 #[.slice A0 l0.length c0] w fun e w' => ∃ v0_ : Value, e = .returned (v0_) ∧ Kd.R (Kd.int .i64) 3 w' w.heap.size (fun _ => True) v0_ r ∧ Below w.heap.size w w' := by
  cases A0 with
  | some a => exact clone_some a c0 l0 r w hr0 hc0 h
  | none =>
    have h0 : l0 = [] := by
      rcases l0 with _ | ⟨x, l⟩
      · rfl
      · obtain ⟨ad, e, _⟩ := hr0.2.2 (by simp)
        cases e
    subst h0
    have hr : r = [] := by
      simp [slices_Clone_int_int.f] at h
      exact h
    subst hr
    exact (clone_none c0 w).mono fun e w' ⟨he, hd⟩ => ⟨_, he, Kd.R_nil _ _ _ _ _, hd.below⟩
end Go.Proofs.YtdlbmbijobcljaaDoor.X

-- By a program of this session's own (wip/print), after the kit's print.
namespace Go.Proofs.YtdlbmbijobcljaaDoor.X
open Go.RowKit Go.Proofs.YtdlbmbijobcljaaDoorW.PrintWords Go.Proofs.YtdlbmbijobcljaaDoorW.PrintLast Go.Proofs.YtdlbmbijobcljaaDoorW.PrintMore
attribute [local go_sem] max2_int min2_int max_two min_two max_three min_three max_four min_four   -- for this text's walks alone
set_option linter.unusedVariables false
set_option linter.unusedSimpArgs false

/-! ### feature_differences: function 114 -/
def feature_differences.l0 : Nat → List (List Int) → List (List Int) → List (List Int) → Int → Int → Option ((List (List Int)))
 | 0, _, _, _, _, _ => none
 | k + 1, x0, x3, x7, x8, x9 => if x9 < x8 then (if 0 ≤ x9 then (if x9 < (x7.length : Int) then (if 0 ≤ (mn (wrap64 (x9 + 1)) (wrap64 ((x0.length : Int) - 1))) then (if (mn (wrap64 (x9 + 1)) (wrap64 ((x0.length : Int) - 1))) < (x0.length : Int) then (if 0 ≤ (mx (wrap64 (x9 - 1)) 0) then (if (mx (wrap64 (x9 - 1)) 0) < (x0.length : Int) then ((combined_149.f (rd_L2 x0 (mn (wrap64 (x9 + 1)) (wrap64 ((x0.length : Int) - 1)))) (rd_L2 x0 (mx (wrap64 (x9 - 1)) 0))).bind fun t104 => ((slices_Clone_int_int.f (rd_L2 x7 x9)).bind fun t107 => (if t107.length + t104.length < 17592186044416 then (if x3.length < 5864062014805 then (feature_differences.l0 k x0 (x3 ++ [(t107 ++ t104)]) x7 x8 (wrap64 (x9 + 1))) else (none)) else (none)))) else (none)) else (none)) else (none)) else (none)) else (none)) else (none)) else (some x3)
def feature_differences.f (k : Nat) (l0 : List (List Int)) : Option ((List (List Int))) := feature_differences.l0 k l0 ([] : List (List Int)) l0 (l0.length : Int) 0
theorem feature_differences.mono_l : ∀ k, (∀ y0 y1 y2 y3 y4, LeO (feature_differences.l0 k y0 y1 y2 y3 y4) (feature_differences.l0 (k + 1) y0 y1 y2 y3 y4))
 | 0 => fun _ _ _ _ _ r h => by simp [feature_differences.l0] at h
 | k + 1 => by
  have ih0 := feature_differences.mono_l k
  ·intro y0 y1 y2 y3 y4
   unfold feature_differences.l0
   repeat' first
   | (with_reducible exact ih0 _ _ _ _ _)
   | (with_reducible exact LeO.refl _)
   | (with_reducible exact LeO.none _)
   | (with_reducible refine LeO.ite ?_ ?_)
   | (with_reducible refine LeO.bind ?_ (fun _ => ?_))
   | exact ih0 _ _ _ _ _
   | exact LeO.none _
   | refine LeO.ite ?_ ?_
   | refine LeO.bind ?_ (fun _ => ?_)
theorem feature_differences.mono : ∀ a0 k, LeO (feature_differences.f k a0) (feature_differences.f (k + 1) a0) := by
 intro a0 k
 have ih0 := feature_differences.mono_l k
 unfold feature_differences.f
 repeat' first
   | (with_reducible exact ih0 _ _ _ _ _)
   | (with_reducible exact LeO.refl _)
   | (with_reducible exact LeO.none _)
   | (with_reducible refine LeO.ite ?_ ?_)
   | (with_reducible refine LeO.bind ?_ (fun _ => ?_))
   | exact ih0 _ _ _ _ _
   | exact LeO.none _
   | refine LeO.ite ?_ ?_
   | refine LeO.bind ?_ (fun _ => ?_)
def feature_differences.T5 : Bool × List (List Nat × List Nat) := (true, [([], []), ([], []), ([1], [1]), ([], []), ([3], [3]), ([4], [4]), ([2, 5], [2, 5]), ([0, 6], [0, 6]), ([7], [7]), ([], []), ([], []), ([10], [10]), ([11], [11]), ([9, 12], [9, 12]), ([13], [13]), ([8, 14], [8, 14]), ([15, 15, 0, 1, 2, 3, 4, 5, 6, 7, 8, 9, 10, 11, 12, 13, 14, 15], [15])])
def feature_differences.B5 : List Nat := [0, 0, 2, 0, 8, 24, 62, 127, 255, 0, 0, 1024, 3072, 7680, 15872, 32767, 65535]
theorem feature_differences.tab5 : rtab .any (opsOf Tryd.f114 5) = feature_differences.T5 := by kernel_rfl
theorem feature_differences.bits5 : waitsOk feature_differences.T5.2 feature_differences.B5 = true := by kernel_rfl
set_option maxHeartbeats 8000000 in
set_option maxRecDepth 100000 in
theorem feature_differences.calls (k : Nat) (A0 : Option Addr) (c0 : Nat) (l0 : List (List Int)) (r : List (List Int)) (w : World) (hr0 : Kd.C (Kd.slice 3 (Kd.int .i64)) w A0 l0.length l0) (hc0 : l0.length ≤ c0) (h : feature_differences.f k l0 = some r) :
  Calls Tryd.prog 114 #[.slice A0 l0.length c0] w fun e w' => ∃ v0_ : Value, e = .returned (v0_) ∧ Kd.S (Kd.slice 3 (Kd.int .i64)) 22 w' w.heap.size (fun _ => True) v0_ r ∧ Below w.heap.size w w' := by
 have HR0 := Aside0.mk hr0
 have HC0 := Aside0.mk hc0
 clear hr0 hc0
 have HB := Aside0.mk (Below.refl w.heap.size w)
 have H : (feature_differences.l0 k l0 ([] : List (List Int)) l0 (l0.length : Int) 0) = some r := h
 clear h
 have H' := Aside0.mk H
 clear H
 go_enter Tryd.func114, Tryd.ntmps114
 go_wp2
 go_loopg [3, 9] k (fun kq v3 v9 w' => ∃ (x3_1 : List (List Int)) (x9_1 : Int), v9 = .int .i64 x9_1 ∧ Aside0 (feature_differences.l0 kq l0 x3_1 l0 (l0.length : Int) x9_1 = some r) ∧ Aside0 (kq ≤ k) ∧ Aside0 (Kd.S (Kd.slice 3 (Kd.int .i64)) 22 w' w.heap.size (fun _ => True) v3 x3_1) ∧ Aside0 (Below w.heap.size w w'))
 case atStart => exact ⟨(([] : List (List Int))), (0), (by first | rfl | (simp; done) | (simp only [i64_w]; done) | (simp [*]; done)), H', ⟨Nat.le_refl _⟩, ⟨by first | exact Kd.S_nil _ _ _ _ _ | exact Kd.N_nil _ _ _ _ _ | exact Kd.V_nil _ _ _ _ _ | exact Kd.Q_nil _ _ _ _ _ | exact Kd.R_nil _ _ _ _ _⟩, ⟨tB⟩⟩
 case round =>
  clear H'
  try clear c1
  obtain ⟨x3_1, x9_1, rfl, HA, HK1, HO_3, HB⟩ := hrel
  cases gk with
  | zero => exact absurd HA.out (by simp [feature_differences.l0])
  | succ k1 =>
   have H := HA.out
   clear HA
   simp only [feature_differences.l0] at H
   by_cases c2 : x9_1 < (l0.length : Int)
   ·rw [if_pos c2] at H
    have c2b0 := decide_eq_true c2
    clear c2
    by_cases c3 : 0 ≤ x9_1
    ·rw [if_pos c3] at H
     have c3b0 := decide_eq_true c3
     clear c3
     by_cases c4 : x9_1 < (l0.length : Int)
     ·rw [if_pos c4] at H
      have c4b0 := decide_eq_true c4
      clear c4
      obtain ⟨ji5, hji5⟩ : ∃ j_ : Int, (mn (wrap64 (x9_1 + 1)) (wrap64 ((l0.length : Int) - 1))) = j_ := ⟨_, rfl⟩
      first | rw [hji5] at H | simp only [hji5] at H
      have hji5_ : (if (wrap64 ((l0.length : Int) - 1)) < (wrap64 (x9_1 + 1)) then (wrap64 ((l0.length : Int) - 1)) else (wrap64 (x9_1 + 1))) = ji5 := hji5
      by_cases c6 : 0 ≤ (ji5)
      ·rw [if_pos c6] at H
       have c6b0 := decide_eq_true c6
       clear c6
       by_cases c7 : (ji5) < (l0.length : Int)
       ·rw [if_pos c7] at H
        have c7b0 := decide_eq_true c7
        clear c7
        obtain ⟨ji8, hji8⟩ : ∃ j_ : Int, (mx (wrap64 (x9_1 - 1)) 0) = j_ := ⟨_, rfl⟩
        first | rw [hji8] at H | simp only [hji8] at H
        have hji8_ : (if (wrap64 (x9_1 - 1)) < 0 then 0 else (wrap64 (x9_1 - 1))) = ji8 := hji8
        by_cases c9 : 0 ≤ (ji8)
        ·rw [if_pos c9] at H
         have c9b0 := decide_eq_true c9
         clear c9
         by_cases c10 : (ji8) < (l0.length : Int)
         ·rw [if_pos c10] at H
          have c10b0 := decide_eq_true c10
          clear c10
          replace H := Option.bind_eq_some_iff.mp H
          obtain ⟨t104, A110, H⟩ := H
          try dsimp only at H
          have A11 := Aside0.mk A110
          clear A110
          replace H := Option.bind_eq_some_iff.mp H
          obtain ⟨t107, A120, H⟩ := H
          try dsimp only at H
          have A12 := Aside0.mk A120
          clear A120
          by_cases c13 : t107.length + t104.length < 17592186044416
          ·rw [if_pos c13] at H
           have LMc13 := Aside0.mk c13
           clear c13
           obtain ⟨y110, hy110⟩ : ∃ y_ : List Int, y_ = (t107 ++ t104) := ⟨_, rfl⟩
           replace H : (if x3_1.length < 5864062014805 then (feature_differences.l0 k1 l0 (x3_1 ++ [y110]) l0 (l0.length : Int) (wrap64 (x9_1 + 1))) else (none)) = some r := by first | (rw [hy110]; with_reducible exact H) | (have H2_ := (Option.bind_some _ _).symm.trans H; rw [hy110]; with_reducible exact H2_) | (have H2_ := (Option.bind_some _ _).symm.trans H; with_reducible exact H2_) | with_reducible exact H | (rw [hy110]; exact H) | exact H
           have Ny110 := Aside0.mk hy110
           clear hy110
           by_cases c14 : x3_1.length < 5864062014805
           ·rw [if_pos c14] at H
            have LMc14 := Aside0.mk c14
            clear c14
            obtain ⟨y113, hy113⟩ : ∃ y_ : List (List Int), y_ = (x3_1 ++ [y110]) := ⟨_, rfl⟩
            replace H : (feature_differences.l0 k1 l0 y113 l0 (l0.length : Int) (wrap64 (x9_1 + 1))) = some r := by first | (rw [hy113]; with_reducible exact H) | (have H2_ := (Option.bind_some _ _).symm.trans H; rw [hy113]; with_reducible exact H2_) | (have H2_ := (Option.bind_some _ _).symm.trans H; with_reducible exact H2_) | with_reducible exact H | (rw [hy113]; exact H) | exact H
            have Ny113 := Aside0.mk hy113
            clear hy113
            have H' := Aside0.mk H
            clear H
            have p101 : 0 ≤ (x9_1 : Int) := of_decide_eq_true tA
            have q101 : x9_1 < (l0.length : Int) := of_decide_eq_true tA
            obtain ⟨ad101, A101_0, c101_0, e101, hx101_0, hl101_0, hi101_0⟩ := at_L2 HR0.out x9_1 p101 q101
            cases e101
            replace hx101_0 := (HB.out.cell (World.block_lt_of_cell? w _ hx101_0)).trans hx101_0
            have HR101_0 := Aside0.mk hi101_0
            have HC101_0 := Aside0.mk hl101_0
            clear hi101_0 hl101_0
            replace p101 := eq_true p101
            replace q101 := eq_true q101
            try go_wp2
            replace HO_3 := Aside0.mk (Kd.S_drew HO_3.out)
            replace HB := Aside0.mk (below_drew1 HB.out)
            have p102 : 0 ≤ ((ji5) : Int) := of_decide_eq_true tA
            have q102 : (ji5) < (l0.length : Int) := of_decide_eq_true tA
            obtain ⟨ad102, A102_0, c102_0, e102, hx102_0, hl102_0, hi102_0⟩ := at_L2 HR0.out (ji5) p102 q102
            have hw102_0 := hx102_0
            obtain rfl : ad101 = ad102 := (by injection e102)
            replace hx102_0 := (HB.out.cell (World.block_lt_of_cell? w _ hx102_0)).trans hx102_0
            have HR102_0 := Aside0.mk hi102_0
            have HC102_0 := Aside0.mk hl102_0
            clear hi102_0 hl102_0
            replace p102 := eq_true p102
            replace q102 := eq_true q102
            have p103 : 0 ≤ ((ji8) : Int) := of_decide_eq_true tA
            have q103 : (ji8) < (l0.length : Int) := of_decide_eq_true tA
            obtain ⟨ad103, A103_0, c103_0, e103, hx103_0, hl103_0, hi103_0⟩ := at_L2 HR0.out (ji8) p103 q103
            have hw103_0 := hx103_0
            obtain rfl : ad101 = ad103 := (by injection e103)
            replace hx103_0 := (HB.out.cell (World.block_lt_of_cell? w _ hx103_0)).trans hx103_0
            have HR103_0 := Aside0.mk hi103_0
            have HC103_0 := Aside0.mk hl103_0
            clear hi103_0 hl103_0
            replace p103 := eq_true p103
            replace q103 := eq_true q103
            refine start_ (n := 17) (S := fun w' => w'.cell? (ad101.add ((ji5)).toNat) = some (.slice A102_0 (rd_L2 l0 (ji5)).length c102_0) ∧ w'.cell? (ad101.add ((ji8)).toNat) = some (.slice A103_0 (rd_L2 l0 (ji8)).length c103_0)) (ds := []) (bm 0 17) (by kernel_rfl) rfl rfl ⟨((HB.out.cell (World.block_lt_of_cell? w _ hw102_0)).trans hw102_0), ((HB.out.cell (World.block_lt_of_cell? w _ hw103_0)).trans hw103_0)⟩ (fun hHeld => ?_); refine with_tabW feature_differences.tab5 feature_differences.bits5 (fun HT_ HW_ => ?_)
            generalize wr.drew = w15 at HO_3 HB HR102_0 HR103_0 hx102_0 hx103_0 hHeld ⊢
            refine pI 0 (some 14) (bm 1 17) HT_.out ?_
            refine pI 1 (some 15) (bm 2 17) HT_.out ?_
            refine pI 2 (some 16) (bm 3 17) HT_.out ?_
            refine pI 3 (some 17) (bm 4 17) HT_.out ?_
            refine pI 4 (some 18) (bm 5 17) HT_.out ?_
            refine pI 5 (some 19) (bm 6 17) HT_.out ?_
            refine pI 6 (some 20) (bm 7 17) HT_.out ?_
            refine pI 7 (some 21) (bm 8 17) HT_.out ?_
            refine pI 9 (some 23) (bq 767 17) HT_.out ?_
            refine pI 10 (some 24) (bq 1791 17) HT_.out ?_
            refine pI 11 (some 25) (bq 3839 17) HT_.out ?_
            refine pI 12 (some 26) (bq 7935 17) HT_.out ?_
            refine pI 13 (some 27) (bq 16127 17) HT_.out ?_
            refine tk2 8 (some 22) (bm 14 17) HT_.out HW_.out hHeld ?_
            refine tk2 14 (some 28) (bm 15 17) HT_.out HW_.out hHeld ?_
            refine one_ (i := 15) (N := some 29) (bm 16 17) rfl rfl (one_of HT_.out (by kernel_rfl)) (by decide) (fun K hK => ?_)
            refine goes_ Tryd.func148 (by kernel_rfl) rfl #[.slice A102_0 (rd_L2 l0 (ji5)).length c102_0, .slice A103_0 (rd_L2 l0 (ji8)).length c103_0, .func (.func 149) #[] #[]] (by rfl) rfl rfl (by (try simp only [List.map_toArray, List.map_cons, List.map_nil]); first | done | (simp only [hji5, hji8]; rfl) | rfl | (simp only [List.length_drop, List.length_take]; rfl)) ?_
            with_reducible refine (combined_149.calls _ _ (rd_L2 l0 (ji5)) _ _ (rd_L2 l0 (ji8)) t104 _ ?side1 ?side2 ?side3 ?side4 A11.out).mono ?_
            (case side1 => exact tC (Kd.C_below HR102_0.out HB.out))
            (case side2 => exact HC102_0.out)
            (case side3 => exact tC (Kd.C_below HR103_0.out HB.out))
            (case side4 => exact HC103_0.out)
            rintro e w16 ⟨v105, rfl, ho0, hb⟩
            refine ⟨_, rfl, ?_⟩
            replace HO_3 := Aside0.mk (Kd.S_elder' (tS HO_3.out) (Kd.R_base ho0) hb)
            have HO106 := Aside0.mk (Kd.R_lower ho0 (below_size tB))
            replace HB := Aside0.mk (below_step tB hb)
            (try clear hb)
            (try clear hb2)
            (try clear hk)
            (try clear hi)
            (try clear ho0)
            refine hK.out _ _ ⟨((HB.out.cell (World.block_lt_of_cell? w _ hw102_0)).trans hw102_0), ((HB.out.cell (World.block_lt_of_cell? w _ hw103_0)).trans hw103_0)⟩ (fun hHeld => ?_)
            clear hK K
            refine nm ?_
            refine pI 16 (some 6) (bm 17 17) HT_.out ?_
            refine done_ (done_of HT_.out (by kernel_rfl)) ?_
            try go_wp2_with (first | ((with_reducible refine gate_callee (f := 99) rfl ?_); refine goesL_ (some 32) rfl rfl Tryd.func99 (by kernel_rfl) rfl #[.slice A101_0 (rd_L2 l0 x9_1).length c101_0] rfl tL ?_; (with_reducible refine (slices_Clone_int_int.calls _ _ (rd_L2 l0 x9_1) t107 _ ?side1 ?side2 A12.out).mono ?_); (case side1 => exact tC (Kd.C_below HR101_0.out HB.out)); (case side2 => exact HC101_0.out); rintro e w17 ⟨v108, rfl, ho0, hb⟩; refine ⟨_, rfl, ?_⟩; replace HO_3 := Aside0.mk (Kd.S_elder' (tS HO_3.out) (Kd.R_base ho0) hb); have HO109 := Aside0.mk (Kd.R_lower (Kd.R_new' ho0 (Kd.R_lt (tR HO106.out))) (below_size tB)); replace HO106 := Aside0.mk (Kd.R_elder' (tR HO106.out) (Kd.R_base ho0) hb); replace HB := Aside0.mk (below_step tB hb); (try clear hb); (try clear hb2); (try clear hk); (try clear hi); (try clear ho0); obtain ⟨Ao19, co19, eo19⟩ := Kd.R_slice HO106.out; subst eo19) | ((with_reducible refine gate_builtin (b := .append) (xs := #[.tmp 32, .tmp 33]) rfl ?_); at_builtin; refine Kd.R_append_rows (Kd.int .i64) (w0 := w) w.heap.size rfl (.tmp 32) (.tmp 33) 22 3 (.int .i64 0) 8 rfl Tryd.underlying22 info3 rfl (by decide) (by omega) v108 t107 t104 _ _ _ (fun k_ => some k_ ≠ (.slice Ao19 t104.length co19 : Value).ownBlock) (fun _ => False) rfl rfl ?aO ?aR (fun _ _ h => h) (fun _ h => h.elim) ?aF ?aB ?aS ?aL ?_; (case aR => repeat (first | exact (Kd.R_reads' HO106.out).2.2 | (with_reducible refine Kd.C_alloc ?_ _) | (with_reducible refine Kd.C_drewN ?_ _) | (with_reducible refine Kd.C_drew ?_))); (case aB => exact tB); (case aF => exact (fun k_ hk => Kd.fresh' (Kd.R_lt (tR HO106.out)) k_ hk)); (case aO => exact (by (with_reducible repeat (first | apply Kd.R_alloc | apply Kd.R_drewN | apply Kd.R_drew)); exact Kd.R_mono HO109.out (fun _ hk => hk.2))); (case aS => exact (below_size tB)); (case aL => have := LMc13.out; omega); intro v111 w18 ho hb hg hat; rw [← Ny110.out] at ho; have n0_ := Aside0.mk (Kd.S_after (ok := (fun k_ => some k_ ≠ (.slice Ao19 t104.length co19 : Value).ownBlock)) (by (with_reducible repeat (first | apply Kd.S_alloc | apply Kd.S_drewN | apply Kd.S_drew)); exact Kd.S_mono HO_3.out (fun _ hk => ⟨hk.1.2, hk.2⟩)) hg hat); have n1_ := Aside0.mk (Kd.R_after (ok := (fun _ => True)) (tR HO106.out) hg hat); have n2_ := Aside0.mk (hb); have n3_ := Aside0.mk (ho); clear HO_3; clear HO106; clear HB; clear HO109; have HO_3 := n0_; have HO106 := n1_; have HB := n2_; have HO112 := n3_; clear n0_ n1_ n2_ n3_; clear ho hb hg hat; obtain ⟨Ao21, co21, eo21⟩ := Kd.R_slice HO112.out; subst eo21) | ((with_reducible refine gate_builtin (b := .append) (xs := #[.tmp 30, .tmp 35]) rfl ?_); at_builtin; refine Kd.S_append (Kd.slice 3 (Kd.int .i64)) (w0 := w) w.heap.size rfl (.tmp 30) (.tmp 35) 42 22 (.slice none 0 0) 24 rfl Tryd.underlying42 info22 rfl (by decide) (by omega) u3 x3_1 y110 [.slice Ao21 y110.length co21] (fun k_ => some k_ ≠ (.slice Ao19 t104.length co19 : Value).ownBlock) (fun k_ => some k_ = (.slice Ao21 y110.length co21 : Value).ownBlock) rfl rfl ?aP (fun k_ hk_ => ((Kd.R_mono (ok' := fun k_ => ((fun k_ => some k_ ≠ (.slice Ao19 t104.length co19 : Value).ownBlock)) k_ ∧ some k_ ≠ (u3 : Value).ownBlock) (Kd.R_apart' (HO112.out) (Kd.S_typed HO_3.out) (by decide)) (fun k_ hk => ⟨hk.1, hk.2⟩))).1 k_ hk_.symm) ?aF ?aO ?aB ?aS ?aL ?_; (case aP => exact Kd.M_row (Kd.R_mono (Kd.R_tight rfl (Kd.R_mono (ok' := fun k_ => ((fun k_ => some k_ ≠ (.slice Ao19 t104.length co19 : Value).ownBlock)) k_ ∧ some k_ ≠ (u3 : Value).ownBlock) (Kd.R_apart' (HO112.out) (Kd.S_typed HO_3.out) (by decide)) (fun k_ hk => ⟨hk.1, hk.2⟩))) (fun _ h_ => h_))); (case aB => exact tB); (case aF => exact (fun k_ hk => Kd.fresh' (Kd.R_lt (tR HO106.out)) k_ hk)); (case aO => exact (by (with_reducible repeat (first | apply Kd.S_alloc | apply Kd.S_drewN | apply Kd.S_drew)); exact Kd.S_mono HO_3.out (fun k_ hk => ⟨hk.1, fun e_ => hk.2 e_⟩))); (case aS => exact (below_size tB)); (case aL => have := LMc14.out; omega); intro v114 w20 ho hb hg hat; rw [← Ny113.out] at ho; have n0_ := Aside0.mk (Kd.R_over' (tR HO106.out) (Kd.S_typed (tS HO_3.out)) (by decide) hg); have n1_ := Aside0.mk (hb); have n2_ := Aside0.mk (ho); clear HO106; clear HB; clear HO_3; clear HO112; have HO106 := n0_; have HB := n1_; have HO115 := n2_; clear n0_ n1_ n2_; clear ho hb hg hat))
            go_roundg k1
            case measure => have := HK1.out; omega
            case rel => exact ⟨(y113), (wrap64 (x9_1 + 1)), (by first | rfl | (simp; done) | (simp only [i64_w]; done) | (simp [*]; done)), H', ⟨by have := HK1.out; omega⟩, ⟨by (with_reducible repeat (first | apply Kd.S_alloc | apply Kd.S_drewN | apply Kd.S_drew)); exact Kd.S_mono HO115.out (fun _ hk => trivial)⟩, ⟨tB⟩⟩
           ·rw [if_neg c14] at H
            exact absurd H (by simp)
          ·rw [if_neg c13] at H
           exact absurd H (by simp)
         ·rw [if_neg c10] at H
          exact absurd H (by simp)
        ·rw [if_neg c9] at H
         exact absurd H (by simp)
       ·rw [if_neg c7] at H
        exact absurd H (by simp)
      ·rw [if_neg c6] at H
       exact absurd H (by simp)
     ·rw [if_neg c4] at H
      exact absurd H (by simp)
    ·rw [if_neg c3] at H
     exact absurd H (by simp)
   ·rw [if_neg c2] at H
    have c2b0 := decide_eq_false c2
    clear c2
    obtain rfl := Option.some.inj H
    go_wp2
    go_ret
    exact ⟨_, by first | rfl | (simp [errW_none, errW_some] <;> rfl) | (simp [*, errW_none, errW_some] <;> rfl), tS HO_3.out, tB⟩

end Go.Proofs.YtdlbmbijobcljaaDoor.X

-- By a program of this session's own (wip/print), after the kit's print.
namespace Go.Proofs.YtdlbmbijobcljaaDoor.X
open Go.RowKit Go.Proofs.YtdlbmbijobcljaaDoorW.PrintWords Go.Proofs.YtdlbmbijobcljaaDoorW.PrintLast Go.Proofs.YtdlbmbijobcljaaDoorW.PrintMore
attribute [local go_sem] max2_int min2_int max_two min_two max_three min_three max_four min_four   -- for this text's walks alone
set_option linter.unusedVariables false
set_option linter.unusedSimpArgs false

/-! ### feature_Differences: function 56 -/
def feature_Differences.f (k : Nat) (l0 : List (List Int)) : Option ((List (List Int)) × Int) := (feature_vectors.f k l0).bind fun t101 => (if t101 = 0 then ((feature_differences.f k l0).bind fun t102 => ((feature_vectors.f k t102).bind fun t105 => (if t105 = 0 then (some (t102, 0)) else (some (([] : List (List Int)), 2))))) else (some (([] : List (List Int)), t101)))
theorem feature_Differences.mono : ∀ a0 k, LeO (feature_Differences.f k a0) (feature_Differences.f (k + 1) a0) := by
 intro a0 k
 unfold feature_Differences.f
 repeat' first
   | (with_reducible exact feature_differences.mono _ _)
   | (with_reducible exact feature_vectors.mono _ _)
   | (with_reducible exact LeO.refl _)
   | (with_reducible exact LeO.none _)
   | (with_reducible refine LeO.ite ?_ ?_)
   | (with_reducible refine LeO.bind ?_ (fun _ => ?_))
   | exact feature_differences.mono _ _
   | exact feature_vectors.mono _ _
   | exact LeO.none _
   | refine LeO.ite ?_ ?_
   | refine LeO.bind ?_ (fun _ => ?_)
set_option maxHeartbeats 8000000 in
set_option maxRecDepth 100000 in
theorem feature_Differences.calls (k : Nat) (A0 : Option Addr) (c0 : Nat) (l0 : List (List Int)) (r1 : List (List Int)) (r2 : Int) (w : World) (hr0 : Kd.C (Kd.slice 3 (Kd.int .i64)) w A0 l0.length l0) (hc0 : l0.length ≤ c0) (h : feature_Differences.f k l0 = some (r1, r2)) :
  Calls Tryd.prog 56 #[.slice A0 l0.length c0] w fun e w' => ∃ v0_ : Value, e = .returned (.tuple #[v0_, .int .i64 r2]) ∧ Kd.S (Kd.slice 3 (Kd.int .i64)) 22 w' w.heap.size (fun _ => True) v0_ r1 ∧ Below w.heap.size w w' := by
 have HR0 := Aside0.mk hr0
 have HC0 := Aside0.mk hc0
 clear hr0 hc0
 have HB := Aside0.mk (Below.refl w.heap.size w)
 have H : ((feature_vectors.f k l0).bind fun t101 => (if t101 = 0 then ((feature_differences.f k l0).bind fun t102 => ((feature_vectors.f k t102).bind fun t105 => (if t105 = 0 then (some (t102, 0)) else (some (([] : List (List Int)), 2))))) else (some (([] : List (List Int)), t101)))) = some (r1, r2) := h
 clear h
 replace H := Option.bind_eq_some_iff.mp H
 obtain ⟨t101, A20, H⟩ := H
 try dsimp only at H
 have A2 := Aside0.mk A20
 clear A20
 by_cases c3 : t101 = 0
 ·rw [if_pos c3] at H
  have c3b0 : (t101 == 0) = true := beq_iff_eq.mpr c3
  have c3b1 : (t101 != 0) = false := bne_eq_false_iff_eq.mpr c3
  clear c3
  replace H := Option.bind_eq_some_iff.mp H
  obtain ⟨t102, A40, H⟩ := H
  try dsimp only at H
  have A4 := Aside0.mk A40
  clear A40
  replace H := Option.bind_eq_some_iff.mp H
  obtain ⟨t105, A50, H⟩ := H
  try dsimp only at H
  have A5 := Aside0.mk A50
  clear A50
  by_cases c6 : t105 = 0
  ·rw [if_pos c6] at H
   have c6b0 : (t105 == 0) = true := beq_iff_eq.mpr c6
   have c6b1 : (t105 != 0) = false := bne_eq_false_iff_eq.mpr c6
   clear c6
   simp only [Option.some.injEq, Prod.mk.injEq] at H
   obtain ⟨rfl, rfl⟩ := H
   go_enter Tryd.func56, Tryd.ntmps56
   go_wp2_with (first | ((with_reducible refine gate_callee (f := 113) rfl ?_); refine goesL_ (some 7) rfl rfl Tryd.func113 (by kernel_rfl) rfl #[.slice A0 l0.length c0] rfl tL ?_; (with_reducible refine (feature_vectors.calls k _ _ l0 t101 _ ?side1 ?side2 A2.out).mono ?_); (case side1 => exact tC HR0.out); (case side2 => exact HC0.out); rintro e w7 ⟨rfl, hb⟩; refine ⟨_, rfl, ?_⟩; replace HB := Aside0.mk (below_step tB hb); (try clear hb); (try clear hb2); (try clear hk); (try clear hi)) | ((with_reducible refine gate_callee (f := 114) rfl ?_); refine goesL_ (some 12) rfl rfl Tryd.func114 (by kernel_rfl) rfl #[.slice A0 l0.length c0] rfl tL ?_; (with_reducible refine (feature_differences.calls k _ _ l0 t102 _ ?side1 ?side2 A4.out).mono ?_); (case side1 => exact tC (Kd.C_below HR0.out HB.out)); (case side2 => exact HC0.out); rintro e w8 ⟨v103, rfl, ho0, hb⟩; refine ⟨_, rfl, ?_⟩; have HO104 := Aside0.mk (Kd.S_lower ho0 (below_size tB)); replace HB := Aside0.mk (below_step tB hb); (try clear hb); (try clear hb2); (try clear hk); (try clear hi); (try clear ho0); obtain ⟨Ao9, co9, eo9⟩ := Kd.S_slice HO104.out; subst eo9) | ((with_reducible refine gate_callee (f := 113) rfl ?_); refine goesL_ (some 14) rfl rfl Tryd.func113 (by kernel_rfl) rfl #[.slice Ao9 t102.length co9] rfl tL ?_; (with_reducible refine (feature_vectors.calls k _ _ t102 t105 _ ?side1 ?side2 A5.out).mono ?_); (case side1 => exact tC (Kd.S_reads' HO104.out).2.2); (case side2 => exact (Kd.S_reads' HO104.out).2.1); rintro e w10 ⟨rfl, hb⟩; refine ⟨_, rfl, ?_⟩; replace HO104 := Aside0.mk (Kd.S_below (tS HO104.out) hb); replace HB := Aside0.mk (below_step tB hb); (try clear hb); (try clear hb2); (try clear hk); (try clear hi)))
   go_ret2
   exact ⟨_, by first | rfl | (simp [errW_none, errW_some] <;> rfl) | (simp [*, errW_none, errW_some] <;> rfl), tS HO104.out, tB⟩
  ·rw [if_neg c6] at H
   have c6b0 : (t105 == 0) = false := beq_eq_false_iff_ne.mpr c6
   have c6b1 : (t105 != 0) = true := bne_iff_ne.mpr c6
   simp only [Option.some.injEq, Prod.mk.injEq] at H
   obtain ⟨rfl, rfl⟩ := H
   go_enter Tryd.func56, Tryd.ntmps56
   go_wp2_with (first | ((with_reducible refine gate_callee (f := 113) rfl ?_); refine goesL_ (some 7) rfl rfl Tryd.func113 (by kernel_rfl) rfl #[.slice A0 l0.length c0] rfl tL ?_; (with_reducible refine (feature_vectors.calls k _ _ l0 t101 _ ?side1 ?side2 A2.out).mono ?_); (case side1 => exact tC HR0.out); (case side2 => exact HC0.out); rintro e w11 ⟨rfl, hb⟩; refine ⟨_, rfl, ?_⟩; replace HB := Aside0.mk (below_step tB hb); (try clear hb); (try clear hb2); (try clear hk); (try clear hi)) | ((with_reducible refine gate_callee (f := 114) rfl ?_); refine goesL_ (some 12) rfl rfl Tryd.func114 (by kernel_rfl) rfl #[.slice A0 l0.length c0] rfl tL ?_; (with_reducible refine (feature_differences.calls k _ _ l0 t102 _ ?side1 ?side2 A4.out).mono ?_); (case side1 => exact tC (Kd.C_below HR0.out HB.out)); (case side2 => exact HC0.out); rintro e w12 ⟨v103, rfl, ho0, hb⟩; refine ⟨_, rfl, ?_⟩; have HO104 := Aside0.mk (Kd.S_lower ho0 (below_size tB)); replace HB := Aside0.mk (below_step tB hb); (try clear hb); (try clear hb2); (try clear hk); (try clear hi); (try clear ho0); obtain ⟨Ao13, co13, eo13⟩ := Kd.S_slice HO104.out; subst eo13) | ((with_reducible refine gate_callee (f := 113) rfl ?_); refine goesL_ (some 14) rfl rfl Tryd.func113 (by kernel_rfl) rfl #[.slice Ao13 t102.length co13] rfl tL ?_; (with_reducible refine (feature_vectors.calls k _ _ t102 t105 _ ?side1 ?side2 A5.out).mono ?_); (case side1 => exact tC (Kd.S_reads' HO104.out).2.2); (case side2 => exact (Kd.S_reads' HO104.out).2.1); rintro e w14 ⟨rfl, hb⟩; refine ⟨_, rfl, ?_⟩; replace HO104 := Aside0.mk (Kd.S_below (tS HO104.out) hb); replace HB := Aside0.mk (below_step tB hb); (try clear hb); (try clear hb2); (try clear hk); (try clear hi)))
   go_ret2
   exact ⟨_, by first | rfl | (simp [errW_none, errW_some] <;> rfl) | (simp [*, errW_none, errW_some] <;> rfl), by first | exact Kd.S_nil _ _ _ _ _ | exact Kd.N_nil _ _ _ _ _ | exact Kd.V_nil _ _ _ _ _ | exact Kd.Q_nil _ _ _ _ _ | exact Kd.R_nil _ _ _ _ _, tB⟩
 ·rw [if_neg c3] at H
  have c3b0 : (t101 == 0) = false := beq_eq_false_iff_ne.mpr c3
  have c3b1 : (t101 != 0) = true := bne_iff_ne.mpr c3
  simp only [Option.some.injEq, Prod.mk.injEq] at H
  obtain ⟨rfl, rfl⟩ := H
  go_enter Tryd.func56, Tryd.ntmps56
  go_wp2_with (first | ((with_reducible refine gate_callee (f := 113) rfl ?_); refine goesL_ (some 7) rfl rfl Tryd.func113 (by kernel_rfl) rfl #[.slice A0 l0.length c0] rfl tL ?_; (with_reducible refine (feature_vectors.calls k _ _ l0 t101 _ ?side1 ?side2 A2.out).mono ?_); (case side1 => exact tC HR0.out); (case side2 => exact HC0.out); rintro e w15 ⟨rfl, hb⟩; refine ⟨_, rfl, ?_⟩; replace HB := Aside0.mk (below_step tB hb); (try clear hb); (try clear hb2); (try clear hk); (try clear hi)))
  go_ret2
  exact ⟨_, by first | rfl | (simp [errW_none, errW_some] <;> rfl) | (simp [*, errW_none, errW_some] <;> rfl), by first | exact Kd.S_nil _ _ _ _ _ | exact Kd.N_nil _ _ _ _ _ | exact Kd.V_nil _ _ _ _ _ | exact Kd.Q_nil _ _ _ _ _ | exact Kd.R_nil _ _ _ _ _, tB⟩

end Go.Proofs.YtdlbmbijobcljaaDoor.X

-- By a program of this session's own (wip/print), after the kit's print.
namespace Go.Proofs.YtdlbmbijobcljaaDoor.X
open Go.RowKit Go.Proofs.YtdlbmbijobcljaaDoorW.PrintWords Go.Proofs.YtdlbmbijobcljaaDoorW.PrintLast Go.Proofs.YtdlbmbijobcljaaDoorW.PrintMore
attribute [local go_sem] max2_int min2_int max_two min_two max_three min_three max_four min_four   -- for this text's walks alone
set_option linter.unusedVariables false
set_option linter.unusedSimpArgs false

/-! ### earshotref02_Same: function 26 -/
def earshotref02_Same.l0 : Nat → List Int → List Int → Int → Option (Bool)
 | 0, _, _, _ => none
 | k + 1, x0, x1, x5 => if x5 < (x0.length : Int) then (if 0 ≤ x5 then (if x5 < (x1.length : Int) then (if (rd x0 x5) = (rd x1 x5) then (earshotref02_Same.l0 k x0 x1 (wrap64 (x5 + 1))) else (some false)) else (none)) else (none)) else (some true)
def earshotref02_Same.f (k : Nat) (l0 : List Int) (l1 : List Int) : Option (Bool) := if (l0.length : Int) = (l1.length : Int) then (earshotref02_Same.l0 k l0 l1 0) else (some false)
theorem earshotref02_Same.mono_l : ∀ k, (∀ y0 y1 y2, LeO (earshotref02_Same.l0 k y0 y1 y2) (earshotref02_Same.l0 (k + 1) y0 y1 y2))
 | 0 => fun _ _ _ r h => by simp [earshotref02_Same.l0] at h
 | k + 1 => by
  have ih0 := earshotref02_Same.mono_l k
  ·intro y0 y1 y2
   unfold earshotref02_Same.l0
   repeat' first
   | (with_reducible exact ih0 _ _ _)
   | (with_reducible exact LeO.refl _)
   | (with_reducible exact LeO.none _)
   | (with_reducible refine LeO.ite ?_ ?_)
   | (with_reducible refine LeO.bind ?_ (fun _ => ?_))
   | exact ih0 _ _ _
   | exact LeO.none _
   | refine LeO.ite ?_ ?_
   | refine LeO.bind ?_ (fun _ => ?_)
theorem earshotref02_Same.mono : ∀ a0 a1 k, LeO (earshotref02_Same.f k a0 a1) (earshotref02_Same.f (k + 1) a0 a1) := by
 intro a0 a1 k
 have ih0 := earshotref02_Same.mono_l k
 unfold earshotref02_Same.f
 repeat' first
   | (with_reducible exact ih0 _ _ _)
   | (with_reducible exact LeO.refl _)
   | (with_reducible exact LeO.none _)
   | (with_reducible refine LeO.ite ?_ ?_)
   | (with_reducible refine LeO.bind ?_ (fun _ => ?_))
   | exact ih0 _ _ _
   | exact LeO.none _
   | refine LeO.ite ?_ ?_
   | refine LeO.bind ?_ (fun _ => ?_)
set_option maxHeartbeats 8000000 in
set_option maxRecDepth 100000 in
theorem earshotref02_Same.calls (k : Nat) (A0 : Option Addr) (c0 : Nat) (l0 : List Int) (A1 : Option Addr) (c1 : Nat) (l1 : List Int) (r : Bool) (w : World) (hr0 : Kd.C (Kd.int .i64) w A0 l0.length l0) (hc0 : l0.length ≤ c0) (hr1 : Kd.C (Kd.int .i64) w A1 l1.length l1) (hc1 : l1.length ≤ c1) (h : earshotref02_Same.f k l0 l1 = some r) :
  Calls Tryd.prog 26 #[.slice A0 l0.length c0, .slice A1 l1.length c1] w fun e w' => e = .returned (.bool r) ∧ Drawn0 w w' := by
 have HR0 := Aside0.mk hr0
 have HC0 := Aside0.mk hc0
 clear hr0 hc0
 have HR1 := Aside0.mk hr1
 have HC1 := Aside0.mk hc1
 clear hr1 hc1
 have H : (if (l0.length : Int) = (l1.length : Int) then (earshotref02_Same.l0 k l0 l1 0) else (some false)) = some r := h
 clear h
 by_cases c3 : (l0.length : Int) = (l1.length : Int)
 ·rw [if_pos c3] at H
  have c3b0 : ((l0.length : Int) == (l1.length : Int)) = true := beq_iff_eq.mpr c3
  have c3b1 : ((l0.length : Int) != (l1.length : Int)) = false := bne_eq_false_iff_eq.mpr c3
  have c3b2 : (l0.length == l1.length) = true := by first | simpa using c3 | (simp at c3 ⊢; omega)
  clear c3
  have H' := Aside0.mk H
  clear H
  go_enter Tryd.func26, Tryd.ntmps26
  go_wp2
  repeat (go_quiet (fail); try go_wp2)
  go_loopg [5] k (fun kq v5 w' => ∃ (x5_1 : Int), v5 = .int .i64 x5_1 ∧ Aside0 (earshotref02_Same.l0 kq l0 l1 x5_1 = some r) ∧ Aside0 (kq ≤ k) ∧ Drawn0 w w')
  case atStart => exact ⟨(0), (by first | rfl | (simp; done) | (simp only [i64_w]; done) | (simp [*]; done)), H', ⟨Nat.le_refl _⟩, by repeat (first | exact Drawn0.refl _ | apply Drawn0.step)⟩
  case round =>
   clear H'
   try clear c1
   try clear c2
   try clear p2
   try clear c3
   try clear c3b0
   try clear c3b1
   try clear c3b2
   obtain ⟨x5_1, rfl, HA, HK1, ⟨m1, rfl⟩⟩ := hrel
   cases gk with
   | zero => exact absurd HA.out (by simp [earshotref02_Same.l0])
   | succ k1 =>
    have H := HA.out
    clear HA
    simp only [earshotref02_Same.l0] at H
    by_cases c4 : x5_1 < (l0.length : Int)
    ·rw [if_pos c4] at H
     have c4b0 := decide_eq_true c4
     clear c4
     by_cases c5 : 0 ≤ x5_1
     ·rw [if_pos c5] at H
      have c5b0 := decide_eq_true c5
      clear c5
      by_cases c6 : x5_1 < (l1.length : Int)
      ·rw [if_pos c6] at H
       have c6b0 := decide_eq_true c6
       clear c6
       by_cases c7 : (rd l0 x5_1) = (rd l1 x5_1)
       ·rw [if_pos c7] at H
        have c7b0 : ((rd l0 x5_1) == (rd l1 x5_1)) = true := beq_iff_eq.mpr c7
        have c7b1 : ((rd l0 x5_1) != (rd l1 x5_1)) = false := bne_eq_false_iff_eq.mpr c7
        clear c7
        have H' := Aside0.mk H
        clear H
        have p101 : 0 ≤ (x5_1 : Int) := of_decide_eq_true tA
        have q101 : x5_1 < (l0.length : Int) := of_decide_eq_true tA
        obtain ⟨ad101, e101, hx101_0⟩ := Kd.at_int HR0.out x5_1 p101 q101
        cases e101
        replace p101 := eq_true p101
        replace q101 := eq_true q101
        have p102 : 0 ≤ (x5_1 : Int) := of_decide_eq_true tA
        have q102 : x5_1 < (l1.length : Int) := of_decide_eq_true tA
        obtain ⟨ad102, e102, hx102_0⟩ := Kd.at_int HR1.out x5_1 p102 q102
        cases e102
        replace p102 := eq_true p102
        replace q102 := eq_true q102
        go_wp2
        repeat (go_quiet (fail); try go_wp2)
        go_roundg k1
        case measure => have := HK1.out; omega
        case rel => exact ⟨(wrap64 (x5_1 + 1)), (by first | rfl | (simp; done) | (simp only [i64_w]; done) | (simp [*]; done)), H', ⟨by have := HK1.out; omega⟩, by repeat (first | exact Drawn0.refl _ | apply Drawn0.step)⟩
       ·rw [if_neg c7] at H
        have c7b0 : ((rd l0 x5_1) == (rd l1 x5_1)) = false := beq_eq_false_iff_ne.mpr c7
        have c7b1 : ((rd l0 x5_1) != (rd l1 x5_1)) = true := bne_iff_ne.mpr c7
        obtain rfl := Option.some.inj H
        have p101 : 0 ≤ (x5_1 : Int) := of_decide_eq_true tA
        have q101 : x5_1 < (l0.length : Int) := of_decide_eq_true tA
        obtain ⟨ad101, e101, hx101_0⟩ := Kd.at_int HR0.out x5_1 p101 q101
        cases e101
        replace p101 := eq_true p101
        replace q101 := eq_true q101
        have p102 : 0 ≤ (x5_1 : Int) := of_decide_eq_true tA
        have q102 : x5_1 < (l1.length : Int) := of_decide_eq_true tA
        obtain ⟨ad102, e102, hx102_0⟩ := Kd.at_int HR1.out x5_1 p102 q102
        cases e102
        replace p102 := eq_true p102
        replace q102 := eq_true q102
        go_wp2
        repeat (go_quiet (fail); try go_wp2)
        go_ret
        exact ⟨by first | rfl | (simp; done) | (simp [*]; done), by repeat (first | exact Drawn0.refl _ | apply Drawn0.step)⟩
      ·rw [if_neg c6] at H
       exact absurd H (by simp)
     ·rw [if_neg c5] at H
      exact absurd H (by simp)
    ·rw [if_neg c4] at H
     have c4b0 := decide_eq_false c4
     clear c4
     obtain rfl := Option.some.inj H
     go_wp2
     repeat (go_quiet (fail); try go_wp2)
     go_ret
     exact ⟨by first | rfl | (simp; done) | (simp [*]; done), by repeat (first | exact Drawn0.refl _ | apply Drawn0.step)⟩
 ·rw [if_neg c3] at H
  have c3b0 : ((l0.length : Int) == (l1.length : Int)) = false := beq_eq_false_iff_ne.mpr c3
  have c3b1 : ((l0.length : Int) != (l1.length : Int)) = true := bne_iff_ne.mpr c3
  have c3b2 : (l0.length == l1.length) = false := by first | simpa using c3 | (simp at c3 ⊢; omega)
  obtain rfl := Option.some.inj H
  go_enter Tryd.func26, Tryd.ntmps26
  go_wp2
  repeat (go_quiet (fail); try go_wp2)
  go_ret
  exact ⟨by first | rfl | (simp; done) | (simp [*]; done), by repeat (first | exact Drawn0.refl _ | apply Drawn0.step)⟩

end Go.Proofs.YtdlbmbijobcljaaDoor.X

-- By a program of this session's own (wip/print), after the kit's print.
namespace Go.Proofs.YtdlbmbijobcljaaDoor.X
open Go.RowKit Go.Proofs.YtdlbmbijobcljaaDoorW.PrintWords Go.Proofs.YtdlbmbijobcljaaDoorW.PrintLast Go.Proofs.YtdlbmbijobcljaaDoorW.PrintMore
attribute [local go_sem] max2_int min2_int max_two min_two max_three min_three max_four min_four   -- for this text's walks alone
set_option linter.unusedVariables false
set_option linter.unusedSimpArgs false

/-! ### earshotref02_SameLists: function 46 -/
def earshotref02_SameLists.l0 : Nat → List (List Int) → List (List Int) → Int → Option (Bool)
 | 0, _, _, _ => none
 | k + 1, x0, x1, x5 => if x5 < (x0.length : Int) then (if 0 ≤ x5 then (if x5 < (x1.length : Int) then ((earshotref02_Same.f k (rd_L2 x0 x5) (rd_L2 x1 x5)).bind fun t103 => (if t103 = true then (earshotref02_SameLists.l0 k x0 x1 (wrap64 (x5 + 1))) else (some false))) else (none)) else (none)) else (some true)
def earshotref02_SameLists.f (k : Nat) (l0 : List (List Int)) (l1 : List (List Int)) : Option (Bool) := if (l0.length : Int) = (l1.length : Int) then (earshotref02_SameLists.l0 k l0 l1 0) else (some false)
theorem earshotref02_SameLists.mono_l : ∀ k, (∀ y0 y1 y2, LeO (earshotref02_SameLists.l0 k y0 y1 y2) (earshotref02_SameLists.l0 (k + 1) y0 y1 y2))
 | 0 => fun _ _ _ r h => by simp [earshotref02_SameLists.l0] at h
 | k + 1 => by
  have ih0 := earshotref02_SameLists.mono_l k
  ·intro y0 y1 y2
   unfold earshotref02_SameLists.l0
   repeat' first
   | (with_reducible exact ih0 _ _ _)
   | (with_reducible exact earshotref02_Same.mono _ _ _)
   | (with_reducible exact LeO.refl _)
   | (with_reducible exact LeO.none _)
   | (with_reducible refine LeO.ite ?_ ?_)
   | (with_reducible refine LeO.bind ?_ (fun _ => ?_))
   | exact ih0 _ _ _
   | exact earshotref02_Same.mono _ _ _
   | exact LeO.none _
   | refine LeO.ite ?_ ?_
   | refine LeO.bind ?_ (fun _ => ?_)
theorem earshotref02_SameLists.mono : ∀ a0 a1 k, LeO (earshotref02_SameLists.f k a0 a1) (earshotref02_SameLists.f (k + 1) a0 a1) := by
 intro a0 a1 k
 have ih0 := earshotref02_SameLists.mono_l k
 unfold earshotref02_SameLists.f
 repeat' first
   | (with_reducible exact ih0 _ _ _)
   | (with_reducible exact earshotref02_Same.mono _ _ _)
   | (with_reducible exact LeO.refl _)
   | (with_reducible exact LeO.none _)
   | (with_reducible refine LeO.ite ?_ ?_)
   | (with_reducible refine LeO.bind ?_ (fun _ => ?_))
   | exact ih0 _ _ _
   | exact earshotref02_Same.mono _ _ _
   | exact LeO.none _
   | refine LeO.ite ?_ ?_
   | refine LeO.bind ?_ (fun _ => ?_)
set_option maxHeartbeats 8000000 in
set_option maxRecDepth 100000 in
theorem earshotref02_SameLists.calls (k : Nat) (A0 : Option Addr) (c0 : Nat) (l0 : List (List Int)) (A1 : Option Addr) (c1 : Nat) (l1 : List (List Int)) (r : Bool) (w : World) (hr0 : Kd.C (Kd.slice 3 (Kd.int .i64)) w A0 l0.length l0) (hc0 : l0.length ≤ c0) (hr1 : Kd.C (Kd.slice 3 (Kd.int .i64)) w A1 l1.length l1) (hc1 : l1.length ≤ c1) (h : earshotref02_SameLists.f k l0 l1 = some r) :
  Calls Tryd.prog 46 #[.slice A0 l0.length c0, .slice A1 l1.length c1] w fun e w' => e = .returned (.bool r) ∧ Drawn0 w w' := by
 have HR0 := Aside0.mk hr0
 have HC0 := Aside0.mk hc0
 clear hr0 hc0
 have HR1 := Aside0.mk hr1
 have HC1 := Aside0.mk hc1
 clear hr1 hc1
 have H : (if (l0.length : Int) = (l1.length : Int) then (earshotref02_SameLists.l0 k l0 l1 0) else (some false)) = some r := h
 clear h
 by_cases c3 : (l0.length : Int) = (l1.length : Int)
 ·rw [if_pos c3] at H
  have c3b0 : ((l0.length : Int) == (l1.length : Int)) = true := beq_iff_eq.mpr c3
  have c3b1 : ((l0.length : Int) != (l1.length : Int)) = false := bne_eq_false_iff_eq.mpr c3
  have c3b2 : (l0.length == l1.length) = true := by first | simpa using c3 | (simp at c3 ⊢; omega)
  clear c3
  have H' := Aside0.mk H
  clear H
  go_enter Tryd.func46, Tryd.ntmps46
  go_wp2
  repeat (go_quiet (fail); try go_wp2)
  go_loopg [5] k (fun kq v5 w' => ∃ (x5_1 : Int), v5 = .int .i64 x5_1 ∧ Aside0 (earshotref02_SameLists.l0 kq l0 l1 x5_1 = some r) ∧ Aside0 (kq ≤ k) ∧ Drawn0 w w')
  case atStart => exact ⟨(0), (by first | rfl | (simp; done) | (simp only [i64_w]; done) | (simp [*]; done)), H', ⟨Nat.le_refl _⟩, by repeat (first | exact Drawn0.refl _ | apply Drawn0.step)⟩
  case round =>
   clear H'
   try clear c1
   try clear p2
   try clear c3
   try clear c3b0
   try clear c3b1
   try clear c3b2
   obtain ⟨x5_1, rfl, HA, HK1, ⟨m1, rfl⟩⟩ := hrel
   cases gk with
   | zero => exact absurd HA.out (by simp [earshotref02_SameLists.l0])
   | succ k1 =>
    have H := HA.out
    clear HA
    simp only [earshotref02_SameLists.l0] at H
    by_cases c4 : x5_1 < (l0.length : Int)
    ·rw [if_pos c4] at H
     have c4b0 := decide_eq_true c4
     clear c4
     by_cases c5 : 0 ≤ x5_1
     ·rw [if_pos c5] at H
      have c5b0 := decide_eq_true c5
      clear c5
      by_cases c6 : x5_1 < (l1.length : Int)
      ·rw [if_pos c6] at H
       have c6b0 := decide_eq_true c6
       clear c6
       replace H := Option.bind_eq_some_iff.mp H
       obtain ⟨t103, A70, H⟩ := H
       try dsimp only at H
       have A7 := Aside0.mk A70
       clear A70
       by_cases c8 : t103 = true
       ·subst c8
        have H1 : (earshotref02_SameLists.l0 k1 l0 l1 (wrap64 (x5_1 + 1))) = some r := by rw [if_pos rfl] at H; exact H
        clear H
        have H := H1
        clear H1
        have H' := Aside0.mk H
        clear H
        have p101 : 0 ≤ (x5_1 : Int) := of_decide_eq_true tA
        have q101 : x5_1 < (l0.length : Int) := of_decide_eq_true tA
        obtain ⟨ad101, A101_0, c101_0, e101, hx101_0, hl101_0, hi101_0⟩ := at_L2 HR0.out x5_1 p101 q101
        cases e101
        have HR101_0 := Aside0.mk hi101_0
        have HC101_0 := Aside0.mk hl101_0
        clear hi101_0 hl101_0
        replace p101 := eq_true p101
        replace q101 := eq_true q101
        have p102 : 0 ≤ (x5_1 : Int) := of_decide_eq_true tA
        have q102 : x5_1 < (l1.length : Int) := of_decide_eq_true tA
        obtain ⟨ad102, A102_0, c102_0, e102, hx102_0, hl102_0, hi102_0⟩ := at_L2 HR1.out x5_1 p102 q102
        cases e102
        have HR102_0 := Aside0.mk hi102_0
        have HC102_0 := Aside0.mk hl102_0
        clear hi102_0 hl102_0
        replace p102 := eq_true p102
        replace q102 := eq_true q102
        go_wp2_with (first | (go_at_call 26; (with_reducible refine (earshotref02_Same.calls k1 _ _ (rd_L2 l0 x5_1) _ _ (rd_L2 l1 x5_1) true _ ?side1 ?side2 ?side3 ?side4 A7.out).mono ?_); (case side1 => exact tC HR101_0.out); (case side2 => exact HC101_0.out); (case side3 => exact tC HR102_0.out); (case side4 => exact HC102_0.out); rintro e w' ⟨rfl, ⟨nd, rfl⟩⟩; (try first | exact ⟨rfl, _, World.drewN_drewN _ _ _⟩ | exact ⟨rfl, _, Eq.trans (World.drewN_drewN _ _ _) (congrArg (World.drewN _) (Nat.add_assoc _ _ _))⟩)))
        repeat (go_quiet (first | (go_at_call 26; (with_reducible refine (earshotref02_Same.calls k1 _ _ (rd_L2 l0 x5_1) _ _ (rd_L2 l1 x5_1) true _ ?side1 ?side2 ?side3 ?side4 A7.out).mono ?_); (case side1 => exact tC HR101_0.out); (case side2 => exact HC101_0.out); (case side3 => exact tC HR102_0.out); (case side4 => exact HC102_0.out); rintro e w' ⟨rfl, ⟨nd, rfl⟩⟩; (try first | exact ⟨rfl, _, World.drewN_drewN _ _ _⟩ | exact ⟨rfl, _, Eq.trans (World.drewN_drewN _ _ _) (congrArg (World.drewN _) (Nat.add_assoc _ _ _))⟩))); try go_wp2_with (first | (go_at_call 26; (with_reducible refine (earshotref02_Same.calls k1 _ _ (rd_L2 l0 x5_1) _ _ (rd_L2 l1 x5_1) true _ ?side1 ?side2 ?side3 ?side4 A7.out).mono ?_); (case side1 => exact tC HR101_0.out); (case side2 => exact HC101_0.out); (case side3 => exact tC HR102_0.out); (case side4 => exact HC102_0.out); rintro e w' ⟨rfl, ⟨nd, rfl⟩⟩; (try first | exact ⟨rfl, _, World.drewN_drewN _ _ _⟩ | exact ⟨rfl, _, Eq.trans (World.drewN_drewN _ _ _) (congrArg (World.drewN _) (Nat.add_assoc _ _ _))⟩))))
        go_roundg k1
        case measure => have := HK1.out; omega
        case rel => exact ⟨(wrap64 (x5_1 + 1)), (by first | rfl | (simp; done) | (simp only [i64_w]; done) | (simp [*]; done)), H', ⟨by have := HK1.out; omega⟩, by repeat (first | exact Drawn0.refl _ | apply Drawn0.step)⟩
       ·replace c8 := Bool.eq_false_iff.mpr c8
        subst c8
        have H1 : (some false) = some r := by rw [if_neg (show ¬ (false = true) by decide)] at H; exact H
        clear H
        have H := H1
        clear H1
        obtain rfl := Option.some.inj H
        have p101 : 0 ≤ (x5_1 : Int) := of_decide_eq_true tA
        have q101 : x5_1 < (l0.length : Int) := of_decide_eq_true tA
        obtain ⟨ad101, A101_0, c101_0, e101, hx101_0, hl101_0, hi101_0⟩ := at_L2 HR0.out x5_1 p101 q101
        cases e101
        have HR101_0 := Aside0.mk hi101_0
        have HC101_0 := Aside0.mk hl101_0
        clear hi101_0 hl101_0
        replace p101 := eq_true p101
        replace q101 := eq_true q101
        have p102 : 0 ≤ (x5_1 : Int) := of_decide_eq_true tA
        have q102 : x5_1 < (l1.length : Int) := of_decide_eq_true tA
        obtain ⟨ad102, A102_0, c102_0, e102, hx102_0, hl102_0, hi102_0⟩ := at_L2 HR1.out x5_1 p102 q102
        cases e102
        have HR102_0 := Aside0.mk hi102_0
        have HC102_0 := Aside0.mk hl102_0
        clear hi102_0 hl102_0
        replace p102 := eq_true p102
        replace q102 := eq_true q102
        go_wp2_with (first | (go_at_call 26; (with_reducible refine (earshotref02_Same.calls k1 _ _ (rd_L2 l0 x5_1) _ _ (rd_L2 l1 x5_1) false _ ?side1 ?side2 ?side3 ?side4 A7.out).mono ?_); (case side1 => exact tC HR101_0.out); (case side2 => exact HC101_0.out); (case side3 => exact tC HR102_0.out); (case side4 => exact HC102_0.out); rintro e w' ⟨rfl, ⟨nd, rfl⟩⟩; (try first | exact ⟨rfl, _, World.drewN_drewN _ _ _⟩ | exact ⟨rfl, _, Eq.trans (World.drewN_drewN _ _ _) (congrArg (World.drewN _) (Nat.add_assoc _ _ _))⟩)))
        repeat (go_quiet (first | (go_at_call 26; (with_reducible refine (earshotref02_Same.calls k1 _ _ (rd_L2 l0 x5_1) _ _ (rd_L2 l1 x5_1) false _ ?side1 ?side2 ?side3 ?side4 A7.out).mono ?_); (case side1 => exact tC HR101_0.out); (case side2 => exact HC101_0.out); (case side3 => exact tC HR102_0.out); (case side4 => exact HC102_0.out); rintro e w' ⟨rfl, ⟨nd, rfl⟩⟩; (try first | exact ⟨rfl, _, World.drewN_drewN _ _ _⟩ | exact ⟨rfl, _, Eq.trans (World.drewN_drewN _ _ _) (congrArg (World.drewN _) (Nat.add_assoc _ _ _))⟩))); try go_wp2_with (first | (go_at_call 26; (with_reducible refine (earshotref02_Same.calls k1 _ _ (rd_L2 l0 x5_1) _ _ (rd_L2 l1 x5_1) false _ ?side1 ?side2 ?side3 ?side4 A7.out).mono ?_); (case side1 => exact tC HR101_0.out); (case side2 => exact HC101_0.out); (case side3 => exact tC HR102_0.out); (case side4 => exact HC102_0.out); rintro e w' ⟨rfl, ⟨nd, rfl⟩⟩; (try first | exact ⟨rfl, _, World.drewN_drewN _ _ _⟩ | exact ⟨rfl, _, Eq.trans (World.drewN_drewN _ _ _) (congrArg (World.drewN _) (Nat.add_assoc _ _ _))⟩))))
        go_ret
        exact ⟨by first | rfl | (simp; done) | (simp [*]; done), by repeat (first | exact Drawn0.refl _ | apply Drawn0.step)⟩
      ·rw [if_neg c6] at H
       exact absurd H (by simp)
     ·rw [if_neg c5] at H
      exact absurd H (by simp)
    ·rw [if_neg c4] at H
     have c4b0 := decide_eq_false c4
     clear c4
     obtain rfl := Option.some.inj H
     go_wp2
     repeat (go_quiet (fail); try go_wp2)
     go_ret
     exact ⟨by first | rfl | (simp; done) | (simp [*]; done), by repeat (first | exact Drawn0.refl _ | apply Drawn0.step)⟩
 ·rw [if_neg c3] at H
  have c3b0 : ((l0.length : Int) == (l1.length : Int)) = false := beq_eq_false_iff_ne.mpr c3
  have c3b1 : ((l0.length : Int) != (l1.length : Int)) = true := bne_iff_ne.mpr c3
  have c3b2 : (l0.length == l1.length) = false := by first | simpa using c3 | (simp at c3 ⊢; omega)
  obtain rfl := Option.some.inj H
  go_enter Tryd.func46, Tryd.ntmps46
  go_wp2
  repeat (go_quiet (fail); try go_wp2)
  go_ret
  exact ⟨by first | rfl | (simp; done) | (simp [*]; done), by repeat (first | exact Drawn0.refl _ | apply Drawn0.step)⟩

end Go.Proofs.YtdlbmbijobcljaaDoor.X

namespace Go.Proofs.YtdlbmbijobcljaaDoor.X
open Go.RowKit Go.Proofs.YtdlbmbijobcljaaDoorW.PrintWords Go.Proofs.YtdlbmbijobcljaaDoorW.PrintLast Go.Proofs.YtdlbmbijobcljaaDoorW.PrintMore

/-- More rounds tell the same: so two answers are one. -/
theorem fix_le {α : Type} {g : Nat → Option α} (hm : ∀ k, LeO (g k) (g (k + 1))) {K : Nat} {a : α} (h : g K = some a) (d : Nat) : g (K + d) = some a := by
  induction d with
  | zero => exact h
  | succ d ih => exact hm (K + d) a ih
theorem fix_of {α : Type} {g : Nat → Option α} (hm : ∀ k, LeO (g k) (g (k + 1))) {K k : Nat} {a b : α} (h1 : g K = some a) (h2 : g k = some b) : b = a := by
  have e1 := fix_le hm h1 k
  have e2 := fix_le hm h2 K
  rw [Nat.add_comm] at e2
  rw [e1] at e2
  exact (Option.some.inj e2).symm
theorem kn_Transform {k : Nat} {t : List Int} {e : Int} (h : feature_Transform.f k [1, -1] = some (t, e)) : t = [0, 23170] ∧ e = 0 := by
  have := fix_of (g := fun k => feature_Transform.f k [1, -1]) (fun k => feature_Transform.mono _ k) (K := 30) (a := ([0, 23170], 0)) (by decide +kernel) h
  exact Prod.mk.inj this
theorem kn_Inverse {k : Nat} {t : List Int} {e : Int} (h : feature_Inverse.f k [32768, 0] = some (t, e)) : t = [1, 1] ∧ e = 0 := by
  have := fix_of (g := fun k => feature_Inverse.f k [32768, 0]) (fun k => feature_Inverse.mono _ k) (K := 30) (a := ([1, 1], 0)) (by decide +kernel) h
  exact Prod.mk.inj this
theorem kn_Cepstrum {k : Nat} {t : List Int} {e : Int} (h : feature_Cepstrum.f k [16, 16, 16] 2 = some (t, e)) : t = [48, 15] ∧ e = 0 := by
  have := fix_of (g := fun k => feature_Cepstrum.f k [16, 16, 16] 2) (fun k => feature_Cepstrum.mono _ _ k) (K := 60) (a := ([48, 15], 0)) (by decide +kernel) h
  exact Prod.mk.inj this
theorem kn_Log {k : Nat} {t : Int} {e : Int} (h : feature_Log.f k 1000 = some (t, e)) : t = 159 ∧ e = 0 := by
  have := fix_of (g := fun k => feature_Log.f k 1000) (fun k => feature_Log.mono _ k) (K := 2000) (a := (159, 0)) (by decide +kernel) h
  exact Prod.mk.inj this
theorem kn_Improve {k : Nat} {t : List (List Int)} {e : Int} (h : feature_Improve.f k [[0], [1], [9]] [[0], [10]] = some (t, e)) : t = [[1], [9]] ∧ e = 0 := by
  have := fix_of (g := fun k => feature_Improve.f k [[0], [1], [9]] [[0], [10]]) (fun k => feature_Improve.mono _ _ k) (K := 60) (a := ([[1], [9]], 0)) (by decide +kernel) h
  exact Prod.mk.inj this
theorem kn_Differences {k : Nat} {t : List (List Int)} {e : Int} (h : feature_Differences.f k [[1], [3], [4]] = some (t, e)) : t = [[1, 2], [3, 3], [4, 1]] ∧ e = 0 := by
  have := fix_of (g := fun k => feature_Differences.f k [[1], [3], [4]]) (fun k => feature_Differences.mono _ k) (K := 60) (a := ([[1, 2], [3, 3], [4, 1]], 0)) (by decide +kernel) h
  exact Prod.mk.inj this
theorem same_all (l m : List Int) (r : Bool) (hlm : l = m) : ∀ (k : Nat) (i : Int), earshotref02_Same.l0 k l m i = some r → r = true := by
  subst hlm
  intro k
  induction k with
  | zero => intro i h; simp [earshotref02_Same.l0] at h
  | succ k ih =>
    intro i h
    simp only [earshotref02_Same.l0] at h
    repeat' split at h
    · exact ih _ h
    · rename_i hn; exact absurd trivial hn
    all_goals first | (exact (Option.some.inj h).symm) | simp at h
theorem kn_Same {k : Nat} {l : List Int} {t : Bool} (h : earshotref02_Same.f k l l = some t) : t = true := by
  unfold earshotref02_Same.f at h
  rw [if_pos rfl] at h
  exact same_all l l t rfl k 0 h
theorem kn_SameLists {k : Nat} {l : List (List Int)} {t : Bool} (h : earshotref02_SameLists.f k l l = some t) : t = true := by
  unfold earshotref02_SameLists.f at h
  rw [if_pos rfl] at h
  revert h
  suffices hs : ∀ (k : Nat) (i : Int), earshotref02_SameLists.l0 k l l i = some t → t = true from hs k 0
  intro k
  induction k with
  | zero => intro i h; simp [earshotref02_SameLists.l0] at h
  | succ k ih =>
    intro i h
    simp only [earshotref02_SameLists.l0] at h
    by_cases c1 : i < (l.length : Int)
    · rw [if_pos c1] at h
      by_cases c2 : 0 ≤ i
      · rw [if_pos c2, if_pos c1] at h
        obtain ⟨b, hb, h⟩ := Option.bind_eq_some_iff.1 h
        rw [kn_Same hb, if_pos rfl] at h
        exact ih _ h
      · rw [if_neg c2] at h; simp at h
    · rw [if_neg c1] at h
      exact (Option.some.inj h).symm
theorem earshotref02_Same_callsN (k : Nat) (A0 : Option Addr) (n0 c0 : Nat) (l0 : List Int) (A1 : Option Addr) (n1 c1 : Nat) (l1 : List Int) (r : Bool) (w : World) (e0 : n0 = l0.length) (e1 : n1 = l1.length) (hr0 : Kd.C (Kd.int .i64) w A0 l0.length l0) (hc0 : l0.length ≤ c0) (hr1 : Kd.C (Kd.int .i64) w A1 l1.length l1) (hc1 : l1.length ≤ c1) (h : earshotref02_Same.f k l0 l1 = some r) :
    Calls Tryd.prog 26 #[.slice A0 n0 c0, .slice A1 n1 c1] w fun e w' => e = .returned (.bool r) ∧ Drawn0 w w' := by
  subst e0 e1
  exact earshotref02_Same.calls k A0 c0 l0 A1 c1 l1 r w hr0 hc0 hr1 hc1 h
theorem earshotref02_SameLists_callsN (k : Nat) (A0 : Option Addr) (n0 c0 : Nat) (l0 : List (List Int)) (A1 : Option Addr) (n1 c1 : Nat) (l1 : List (List Int)) (r : Bool) (w : World) (e0 : n0 = l0.length) (e1 : n1 = l1.length) (hr0 : Kd.C (Kd.slice 3 (Kd.int .i64)) w A0 l0.length l0) (hc0 : l0.length ≤ c0) (hr1 : Kd.C (Kd.slice 3 (Kd.int .i64)) w A1 l1.length l1) (hc1 : l1.length ≤ c1) (h : earshotref02_SameLists.f k l0 l1 = some r) :
    Calls Tryd.prog 46 #[.slice A0 n0 c0, .slice A1 n1 c1] w fun e w' => e = .returned (.bool r) ∧ Drawn0 w w' := by
  subst e0 e1
  exact earshotref02_SameLists.calls k A0 c0 l0 A1 c1 l1 r w hr0 hc0 hr1 hc1 h
end Go.Proofs.YtdlbmbijobcljaaDoor.X
