/- Merged by a program of this session's own (wip/print/merge.py): X170, X156, X157, X136, X88, X31, X6, X24, X25. No law stands here; conditions: none. -/
import Derived.Test.YtdlbmbijobcljaaDoorMA
import Derived.Test.YtdlbmbijobcljaaDoorLaFeatureLogs
import Derived.Test.YtdlbmbijobcljaaDoorMK
namespace Go.Proofs.YtdlbmbijobcljaaDoor.X
open Go.RowKit Go.Proofs.YtdlbmbijobcljaaDoorW.PrintWords Go.Proofs.YtdlbmbijobcljaaDoorW.PrintLast Go.Proofs.YtdlbmbijobcljaaDoorW.PrintMore
attribute [local go_sem] max2_int min2_int max_two min_two max_three min_three max_four min_four   -- for this text's walks alone
set_option linter.unusedVariables false
set_option linter.unusedSimpArgs false
/-! ### earshotref01_plus: function 170 -/
mutual
def earshotref01_plus.l0 : Nat → List Int → List Int → List Int → Int → Int → Option (List Int)
 | 0, _, _, _, _, _ => none
 | k + 1, x0, x1, x5, x6, x7 => if x7 < (x0.length : Int) then (earshotref01_plus.j1 k x0 x1 x5 x6 x7 true) else (if x7 < (x1.length : Int) then (earshotref01_plus.j1 k x0 x1 x5 x6 x7 true) else (earshotref01_plus.j1 k x0 x1 x5 x6 x7 (decide (x6 > 0))))
def earshotref01_plus.j1 : Nat → List Int → List Int → List Int → Int → Int → Bool → Option (List Int)
 | 0, _, _, _, _, _, _ => none
 | k + 1, x0, x1, x5, x6, x7, x21 => if x21 = true then (if x7 < (x0.length : Int) then (if 0 ≤ x7 then (if x7 < (x1.length : Int) then (if x5.length < 35184372088832 then (earshotref01_plus.l0 k x0 x1 (x5 ++ [(IntKind.u64.wrap ((IntKind.u64.wrap (x6 + (IntKind.u64.wrap (rd x0 x7)))) + (IntKind.u64.wrap (rd x1 x7)))) % 4294967296]) ((IntKind.u64.wrap ((IntKind.u64.wrap (x6 + (IntKind.u64.wrap (rd x0 x7)))) + (IntKind.u64.wrap (rd x1 x7)))) / 4294967296) (wrap64 (x7 + 1))) else (none)) else (if x5.length < 35184372088832 then (earshotref01_plus.l0 k x0 x1 (x5 ++ [(IntKind.u64.wrap (x6 + (IntKind.u64.wrap (rd x0 x7)))) % 4294967296]) ((IntKind.u64.wrap (x6 + (IntKind.u64.wrap (rd x0 x7)))) / 4294967296) (wrap64 (x7 + 1))) else (none))) else (none)) else (if x7 < (x1.length : Int) then (if 0 ≤ x7 then (if x5.length < 35184372088832 then (earshotref01_plus.l0 k x0 x1 (x5 ++ [(IntKind.u64.wrap (x6 + (IntKind.u64.wrap (rd x1 x7)))) % 4294967296]) ((IntKind.u64.wrap (x6 + (IntKind.u64.wrap (rd x1 x7)))) / 4294967296) (wrap64 (x7 + 1))) else (none)) else (none)) else (if x5.length < 35184372088832 then (earshotref01_plus.l0 k x0 x1 (x5 ++ [(x6) % 4294967296]) (x6 / 4294967296) (wrap64 (x7 + 1))) else (none)))) else ((earshotref01_trim.f k x5).bind fun t101 => (some t101))
end
def earshotref01_plus.f (k : Nat) (l0 : List Int) (l1 : List Int) : Option (List Int) := earshotref01_plus.l0 k l0 l1 ([] : List Int) 0 0
theorem earshotref01_plus.mono_l : ∀ k, (∀ y0 y1 y2 y3 y4, LeO (earshotref01_plus.l0 k y0 y1 y2 y3 y4) (earshotref01_plus.l0 (k + 1) y0 y1 y2 y3 y4)) ∧ (∀ y0 y1 y2 y3 y4 y5, LeO (earshotref01_plus.j1 k y0 y1 y2 y3 y4 y5) (earshotref01_plus.j1 (k + 1) y0 y1 y2 y3 y4 y5))
 | 0 => ⟨fun _ _ _ _ _ r h => by simp [earshotref01_plus.l0] at h, fun _ _ _ _ _ _ r h => by simp [earshotref01_plus.j1] at h⟩
 | k + 1 => by
  obtain ⟨ih0, ih1⟩ := earshotref01_plus.mono_l k
  refine ⟨?_, ?_⟩
  ·intro y0 y1 y2 y3 y4
   unfold earshotref01_plus.l0
   repeat' first
   | (with_reducible exact ih0 _ _ _ _ _)
   | (with_reducible exact ih1 _ _ _ _ _ _)
   | (with_reducible exact earshotref01_trim.mono _ _)
   | (with_reducible exact LeO.refl _)
   | (with_reducible exact LeO.none _)
   | (with_reducible refine LeO.ite ?_ ?_)
   | (with_reducible refine LeO.bind ?_ (fun _ => ?_))
   | exact ih0 _ _ _ _ _
   | exact ih1 _ _ _ _ _ _
   | exact earshotref01_trim.mono _ _
   | exact LeO.none _
   | refine LeO.ite ?_ ?_
   | refine LeO.bind ?_ (fun _ => ?_)
  ·intro y0 y1 y2 y3 y4 y5
   unfold earshotref01_plus.j1
   repeat' first
   | (with_reducible exact ih0 _ _ _ _ _)
   | (with_reducible exact ih1 _ _ _ _ _ _)
   | (with_reducible exact earshotref01_trim.mono _ _)
   | (with_reducible exact LeO.refl _)
   | (with_reducible exact LeO.none _)
   | (with_reducible refine LeO.ite ?_ ?_)
   | (with_reducible refine LeO.bind ?_ (fun _ => ?_))
   | exact ih0 _ _ _ _ _
   | exact ih1 _ _ _ _ _ _
   | exact earshotref01_trim.mono _ _
   | exact LeO.none _
   | refine LeO.ite ?_ ?_
   | refine LeO.bind ?_ (fun _ => ?_)
theorem earshotref01_plus.mono : ∀ a0 a1 k, LeO (earshotref01_plus.f k a0 a1) (earshotref01_plus.f (k + 1) a0 a1) := by
 intro a0 a1 k
 obtain ⟨ih0, ih1⟩ := earshotref01_plus.mono_l k
 unfold earshotref01_plus.f
 repeat' first
   | (with_reducible exact ih0 _ _ _ _ _)
   | (with_reducible exact ih1 _ _ _ _ _ _)
   | (with_reducible exact earshotref01_trim.mono _ _)
   | (with_reducible exact LeO.refl _)
   | (with_reducible exact LeO.none _)
   | (with_reducible refine LeO.ite ?_ ?_)
   | (with_reducible refine LeO.bind ?_ (fun _ => ?_))
   | exact ih0 _ _ _ _ _
   | exact ih1 _ _ _ _ _ _
   | exact earshotref01_trim.mono _ _
   | exact LeO.none _
   | refine LeO.ite ?_ ?_
   | refine LeO.bind ?_ (fun _ => ?_)
set_option maxHeartbeats 8000000 in
set_option maxRecDepth 100000 in
theorem earshotref01_plus.calls (k : Nat) (A0 : Option Addr) (c0 : Nat) (l0 : List Int) (A1 : Option Addr) (c1 : Nat) (l1 : List Int) (r : List Int) (w : World) (hr0 : Kd.C (Kd.int .u32) w A0 l0.length l0) (hc0 : l0.length ≤ c0) (hr1 : Kd.C (Kd.int .u32) w A1 l1.length l1) (hc1 : l1.length ≤ c1) (h : earshotref01_plus.f k l0 l1 = some r) :
  Calls Tryd.prog 170 #[.slice A0 l0.length c0, .slice A1 l1.length c1] w fun e w' => ∃ v0_ : Value, e = .returned (v0_) ∧ Kd.V (Kd.int .u32) 118 w' w.heap.size (fun k_ => (w.heap.size ≤ k_)) v0_ r ∧ Below w.heap.size w w' := by
 have HR0 := Aside0.mk hr0
 have HC0 := Aside0.mk hc0
 clear hr0 hc0
 have HR1 := Aside0.mk hr1
 have HC1 := Aside0.mk hc1
 clear hr1 hc1
 have HB := Aside0.mk (Below.refl w.heap.size w)
 have H : (earshotref01_plus.l0 k l0 l1 ([] : List Int) 0 0) = some r := h
 clear h
 have H' := Aside0.mk H
 clear H
 go_enter Tryd.func170, Tryd.ntmps170
 go_wp2
 go_loopg [5, 6, 7] k (fun kq v5 v6 v7 w' => ∃ (x5_1 : List Int) (x6_1 : Int) (x7_1 : Int), v6 = .int .u64 x6_1 ∧ v7 = .int .i64 x7_1 ∧ Aside0 (earshotref01_plus.l0 kq l0 l1 x5_1 x6_1 x7_1 = some r) ∧ Aside0 (kq ≤ k) ∧ Aside0 (Kd.R (Kd.int .u32) 118 w' w.heap.size (fun k_ => (w.heap.size ≤ k_)) v5 x5_1) ∧ Aside0 (Below w.heap.size w w'))
 case atStart => exact ⟨(([] : List Int)), (0), (0), (by first | rfl | (simp; done) | (simp only [i64_w]; done) | (simp [*]; done)), (by first | rfl | (simp; done) | (simp only [i64_w]; done) | (simp [*]; done)), H', ⟨Nat.le_refl _⟩, ⟨by first | exact Kd.R_nil _ _ _ _ _ | exact Kd.N_nil _ _ _ _ _ | exact Kd.V_nil _ _ _ _ _ | exact Kd.Q_nil _ _ _ _ _ | exact Kd.S_nil _ _ _ _ _⟩, ⟨tB⟩⟩
 case round =>
  clear H'
  try clear c1
  try clear p2
  obtain ⟨x5_1, x6_1, x7_1, rfl, rfl, HA, HK1, HO_5, HB⟩ := hrel
  cases gk with
  | zero => exact absurd HA.out (by simp [earshotref01_plus.l0])
  | succ k1 =>
   have H := HA.out
   clear HA
   simp only [earshotref01_plus.l0] at H
   have HC3 := Aside0.mk H
   clear H
   go_upto_region 4 with (fail)
   go_cut [21] (fun v21 wc => ∃ (kq : Nat) (x21_2 : Bool), v21 = .bool x21_2 ∧ Aside0 (earshotref01_plus.j1 kq l0 l1 x5_1 x6_1 x7_1 x21_2 = some r) ∧ Aside0 (kq ≤ k1) ∧ Aside0 (Kd.R (Kd.int .u32) 118 wc w.heap.size (fun k_ => (w.heap.size ≤ k_)) u5 x5_1) ∧ Aside0 (Below w.heap.size w wc))
   case first =>
    have H := HC3.out
    clear HC3
    by_cases c4 : x7_1 < (l0.length : Int)
    ·rw [if_pos c4] at H
     have c4b0 := decide_eq_true c4
     clear c4
     (first | rw [c4b0] | (simp only [i64_w, i32_w]; rw [c4b0]) | skip)
     have H' := Aside0.mk H
     clear H
     go_wp2
     go_meet
     case rel => exact ⟨_, (true), (by first | rfl | (simp; done) | (simp only [i64_w]; done) | (simp [*]; done)), H', ⟨by have := HK1.out; first | omega | exact Nat.le_refl _⟩, ⟨tR HO_5.out⟩, ⟨tB⟩⟩
    ·rw [if_neg c4] at H
     have c4b0 := decide_eq_false c4
     clear c4
     (first | rw [c4b0] | (simp only [i64_w, i32_w]; rw [c4b0]) | skip)
     by_cases c5 : x7_1 < (l1.length : Int)
     ·rw [if_pos c5] at H
      have c5b0 := decide_eq_true c5
      clear c5
      have H' := Aside0.mk H
      clear H
      go_wp2
      go_meet
      case rel => exact ⟨_, (true), (by first | rfl | (simp; done) | (simp only [i64_w]; done) | (simp [*]; done)), H', ⟨by have := HK1.out; first | omega | exact Nat.le_refl _⟩, ⟨tR HO_5.out⟩, ⟨tB⟩⟩
     ·rw [if_neg c5] at H
      have c5b0 := decide_eq_false c5
      clear c5
      have H' := Aside0.mk H
      clear H
      go_wp2
      go_meet
      case rel => exact ⟨_, (decide (x6_1 > 0)), (by first | rfl | (simp; done) | (simp only [i64_w]; done) | (simp [*]; done)), H', ⟨by have := HK1.out; first | omega | exact Nat.le_refl _⟩, ⟨tR HO_5.out⟩, ⟨tB⟩⟩
   case rest =>
    clear HC3
    try clear c1
    try clear p2
    try clear c4
    try clear c4b0
    try clear c5
    try clear c5b0
    try clear p2
    obtain ⟨kq, x21_2, rfl, HA, HJ2, HO_5, HB⟩ := hcut
    cases kq with
    | zero => exact absurd HA.out (by simp [earshotref01_plus.j1])
    | succ kj2 =>
     have H := HA.out
     clear HA
     simp only [earshotref01_plus.j1] at H
     by_cases c6 : x21_2 = true
     ·subst c6
      have H1 : (if x7_1 < (l0.length : Int) then (if 0 ≤ x7_1 then (if x7_1 < (l1.length : Int) then (if x5_1.length < 35184372088832 then (earshotref01_plus.l0 kj2 l0 l1 (x5_1 ++ [(IntKind.u64.wrap ((IntKind.u64.wrap (x6_1 + (IntKind.u64.wrap (rd l0 x7_1)))) + (IntKind.u64.wrap (rd l1 x7_1)))) % 4294967296]) ((IntKind.u64.wrap ((IntKind.u64.wrap (x6_1 + (IntKind.u64.wrap (rd l0 x7_1)))) + (IntKind.u64.wrap (rd l1 x7_1)))) / 4294967296) (wrap64 (x7_1 + 1))) else (none)) else (if x5_1.length < 35184372088832 then (earshotref01_plus.l0 kj2 l0 l1 (x5_1 ++ [(IntKind.u64.wrap (x6_1 + (IntKind.u64.wrap (rd l0 x7_1)))) % 4294967296]) ((IntKind.u64.wrap (x6_1 + (IntKind.u64.wrap (rd l0 x7_1)))) / 4294967296) (wrap64 (x7_1 + 1))) else (none))) else (none)) else (if x7_1 < (l1.length : Int) then (if 0 ≤ x7_1 then (if x5_1.length < 35184372088832 then (earshotref01_plus.l0 kj2 l0 l1 (x5_1 ++ [(IntKind.u64.wrap (x6_1 + (IntKind.u64.wrap (rd l1 x7_1)))) % 4294967296]) ((IntKind.u64.wrap (x6_1 + (IntKind.u64.wrap (rd l1 x7_1)))) / 4294967296) (wrap64 (x7_1 + 1))) else (none)) else (none)) else (if x5_1.length < 35184372088832 then (earshotref01_plus.l0 kj2 l0 l1 (x5_1 ++ [(x6_1) % 4294967296]) (x6_1 / 4294967296) (wrap64 (x7_1 + 1))) else (none)))) = some r := by rw [if_pos rfl] at H; exact H
      clear H
      have H := H1
      clear H1
      by_cases c7 : x7_1 < (l0.length : Int)
      ·rw [if_pos c7] at H
       have c7b0 := decide_eq_true c7
       clear c7
       by_cases c8 : 0 ≤ x7_1
       ·rw [if_pos c8] at H
        have c8b0 := decide_eq_true c8
        clear c8
        by_cases c9 : x7_1 < (l1.length : Int)
        ·rw [if_pos c9] at H
         have c9b0 := decide_eq_true c9
         clear c9
         by_cases c10 : x5_1.length < 35184372088832
         ·rw [if_pos c10] at H
          have LMc10 := Aside0.mk c10
          clear c10
          obtain ⟨y106, hy106⟩ : ∃ y_ : List Int, y_ = (x5_1 ++ [(IntKind.u64.wrap ((IntKind.u64.wrap (x6_1 + (IntKind.u64.wrap (rd l0 x7_1)))) + (IntKind.u64.wrap (rd l1 x7_1)))) % 4294967296]) := ⟨_, rfl⟩
          replace H : (earshotref01_plus.l0 kj2 l0 l1 y106 ((IntKind.u64.wrap ((IntKind.u64.wrap (x6_1 + (IntKind.u64.wrap (rd l0 x7_1)))) + (IntKind.u64.wrap (rd l1 x7_1)))) / 4294967296) (wrap64 (x7_1 + 1))) = some r := by first | (rw [hy106]; with_reducible exact H) | (have H2_ := (Option.bind_some _ _).symm.trans H; rw [hy106]; with_reducible exact H2_) | (have H2_ := (Option.bind_some _ _).symm.trans H; with_reducible exact H2_) | with_reducible exact H | (rw [hy106]; exact H) | exact H
          have Ny106 := Aside0.mk hy106
          clear hy106
          have H' := Aside0.mk H
          clear H
          have p104 : 0 ≤ (x7_1 : Int) := of_decide_eq_true tA
          have q104 : x7_1 < (l0.length : Int) := of_decide_eq_true tA
          obtain ⟨ad104, e104, hx104_0⟩ := Kd.at_int HR0.out x7_1 p104 q104
          cases e104
          replace hx104_0 := (HB.out.cell (World.block_lt_of_cell? w _ hx104_0)).trans hx104_0
          replace p104 := eq_true p104
          replace q104 := eq_true q104
          have p105 : 0 ≤ (x7_1 : Int) := of_decide_eq_true tA
          have q105 : x7_1 < (l1.length : Int) := of_decide_eq_true tA
          obtain ⟨ad105, e105, hx105_0⟩ := Kd.at_int HR1.out x7_1 p105 q105
          cases e105
          replace hx105_0 := (HB.out.cell (World.block_lt_of_cell? w _ hx105_0)).trans hx105_0
          replace p105 := eq_true p105
          replace q105 := eq_true q105
          go_wp2_with (first | ((with_reducible refine gate_builtin (b := .append) (xs := #[.tmp 46, .tmp 49]) rfl ?_); (try (refine gate_guard (by rfl) ?_; dsimp only)); at_builtin; refine Kd.R_append (Kd.int .u32) (w0 := w) w.heap.size rfl (.tmp 46) (.tmp 49) 101 118 (.int .u32 0) 4 rfl Tryd.underlying101 info118 rfl (by decide) (by omega) u5 x5_1 ((IntKind.u64.wrap ((IntKind.u64.wrap (x6_1 + (IntKind.u64.wrap (rd l0 x7_1)))) + (IntKind.u64.wrap (rd l1 x7_1)))) % 4294967296) [.int .u32 ((IntKind.u64.wrap ((IntKind.u64.wrap (x6_1 + (IntKind.u64.wrap (rd l0 x7_1)))) + (IntKind.u64.wrap (rd l1 x7_1)))) % 4294967296)] (fun k_ => (w.heap.size ≤ k_)) (fun _ => False) rfl rfl ?aP (fun _ hk => hk.elim) ?aF ?aO ?aB ?aS ?aL ?_; (case aP => exact rfl); (case aB => exact tB); (case aF => exact (fun k_ hk => (Nat.le_trans (below_size tB) hk))); (case aO => exact (tR HO_5.out)); (case aS => exact (below_size tB)); (case aL => have := LMc10.out; omega); intro v107 w11 ho hb hg hat; rw [← Ny106.out] at ho; have n0_ := Aside0.mk (hb); have n1_ := Aside0.mk (ho); clear HB; clear HO_5; have HB := n0_; have HO108 := n1_; clear n0_ n1_; clear ho hb hg hat))
          go_roundg kj2
          case measure => have := HK1.out; have := HJ2.out; omega
          case rel => exact ⟨(y106), ((IntKind.u64.wrap ((IntKind.u64.wrap (x6_1 + (IntKind.u64.wrap (rd l0 x7_1)))) + (IntKind.u64.wrap (rd l1 x7_1)))) / 4294967296), (wrap64 (x7_1 + 1)), (by first | rfl | (simp; done) | (simp only [i64_w]; done) | (simp [*]; done)), (by first | rfl | (simp; done) | (simp only [i64_w]; done) | (simp [*]; done)), H', ⟨by have := HK1.out; have := HJ2.out; omega⟩, ⟨tR HO108.out⟩, ⟨tB⟩⟩
         ·rw [if_neg c10] at H
          exact absurd H (by simp)
        ·rw [if_neg c9] at H
         have c9b0 := decide_eq_false c9
         clear c9
         by_cases c12 : x5_1.length < 35184372088832
         ·rw [if_pos c12] at H
          have LMc12 := Aside0.mk c12
          clear c12
          obtain ⟨y109, hy109⟩ : ∃ y_ : List Int, y_ = (x5_1 ++ [(IntKind.u64.wrap (x6_1 + (IntKind.u64.wrap (rd l0 x7_1)))) % 4294967296]) := ⟨_, rfl⟩
          replace H : (earshotref01_plus.l0 kj2 l0 l1 y109 ((IntKind.u64.wrap (x6_1 + (IntKind.u64.wrap (rd l0 x7_1)))) / 4294967296) (wrap64 (x7_1 + 1))) = some r := by first | (rw [hy109]; with_reducible exact H) | (have H2_ := (Option.bind_some _ _).symm.trans H; rw [hy109]; with_reducible exact H2_) | (have H2_ := (Option.bind_some _ _).symm.trans H; with_reducible exact H2_) | with_reducible exact H | (rw [hy109]; exact H) | exact H
          have Ny109 := Aside0.mk hy109
          clear hy109
          have H' := Aside0.mk H
          clear H
          have p104 : 0 ≤ (x7_1 : Int) := of_decide_eq_true tA
          have q104 : x7_1 < (l0.length : Int) := of_decide_eq_true tA
          obtain ⟨ad104, e104, hx104_0⟩ := Kd.at_int HR0.out x7_1 p104 q104
          cases e104
          replace hx104_0 := (HB.out.cell (World.block_lt_of_cell? w _ hx104_0)).trans hx104_0
          replace p104 := eq_true p104
          replace q104 := eq_true q104
          go_wp2_with (first | ((with_reducible refine gate_builtin (b := .append) (xs := #[.tmp 46, .tmp 49]) rfl ?_); (try (refine gate_guard (by rfl) ?_; dsimp only)); at_builtin; refine Kd.R_append (Kd.int .u32) (w0 := w) w.heap.size rfl (.tmp 46) (.tmp 49) 101 118 (.int .u32 0) 4 rfl Tryd.underlying101 info118 rfl (by decide) (by omega) u5 x5_1 ((IntKind.u64.wrap (x6_1 + (IntKind.u64.wrap (rd l0 x7_1)))) % 4294967296) [.int .u32 ((IntKind.u64.wrap (x6_1 + (IntKind.u64.wrap (rd l0 x7_1)))) % 4294967296)] (fun k_ => (w.heap.size ≤ k_)) (fun _ => False) rfl rfl ?aP (fun _ hk => hk.elim) ?aF ?aO ?aB ?aS ?aL ?_; (case aP => exact rfl); (case aB => exact tB); (case aF => exact (fun k_ hk => (Nat.le_trans (below_size tB) hk))); (case aO => exact (tR HO_5.out)); (case aS => exact (below_size tB)); (case aL => have := LMc12.out; omega); intro v110 w13 ho hb hg hat; rw [← Ny109.out] at ho; have n0_ := Aside0.mk (hb); have n1_ := Aside0.mk (ho); clear HB; clear HO_5; have HB := n0_; have HO111 := n1_; clear n0_ n1_; clear ho hb hg hat))
          go_roundg kj2
          case measure => have := HK1.out; have := HJ2.out; omega
          case rel => exact ⟨(y109), ((IntKind.u64.wrap (x6_1 + (IntKind.u64.wrap (rd l0 x7_1)))) / 4294967296), (wrap64 (x7_1 + 1)), (by first | rfl | (simp; done) | (simp only [i64_w]; done) | (simp [*]; done)), (by first | rfl | (simp; done) | (simp only [i64_w]; done) | (simp [*]; done)), H', ⟨by have := HK1.out; have := HJ2.out; omega⟩, ⟨tR HO111.out⟩, ⟨tB⟩⟩
         ·rw [if_neg c12] at H
          exact absurd H (by simp)
       ·rw [if_neg c8] at H
        exact absurd H (by simp)
      ·rw [if_neg c7] at H
       have c7b0 := decide_eq_false c7
       clear c7
       by_cases c14 : x7_1 < (l1.length : Int)
       ·rw [if_pos c14] at H
        have c14b0 := decide_eq_true c14
        clear c14
        by_cases c15 : 0 ≤ x7_1
        ·rw [if_pos c15] at H
         have c15b0 := decide_eq_true c15
         clear c15
         by_cases c16 : x5_1.length < 35184372088832
         ·rw [if_pos c16] at H
          have LMc16 := Aside0.mk c16
          clear c16
          obtain ⟨y113, hy113⟩ : ∃ y_ : List Int, y_ = (x5_1 ++ [(IntKind.u64.wrap (x6_1 + (IntKind.u64.wrap (rd l1 x7_1)))) % 4294967296]) := ⟨_, rfl⟩
          replace H : (earshotref01_plus.l0 kj2 l0 l1 y113 ((IntKind.u64.wrap (x6_1 + (IntKind.u64.wrap (rd l1 x7_1)))) / 4294967296) (wrap64 (x7_1 + 1))) = some r := by first | (rw [hy113]; with_reducible exact H) | (have H2_ := (Option.bind_some _ _).symm.trans H; rw [hy113]; with_reducible exact H2_) | (have H2_ := (Option.bind_some _ _).symm.trans H; with_reducible exact H2_) | with_reducible exact H | (rw [hy113]; exact H) | exact H
          have Ny113 := Aside0.mk hy113
          clear hy113
          have H' := Aside0.mk H
          clear H
          have p112 : 0 ≤ (x7_1 : Int) := of_decide_eq_true tA
          have q112 : x7_1 < (l1.length : Int) := of_decide_eq_true tA
          obtain ⟨ad112, e112, hx112_0⟩ := Kd.at_int HR1.out x7_1 p112 q112
          cases e112
          replace hx112_0 := (HB.out.cell (World.block_lt_of_cell? w _ hx112_0)).trans hx112_0
          replace p112 := eq_true p112
          replace q112 := eq_true q112
          go_wp2_with (first | ((with_reducible refine gate_builtin (b := .append) (xs := #[.tmp 46, .tmp 49]) rfl ?_); (try (refine gate_guard (by rfl) ?_; dsimp only)); at_builtin; refine Kd.R_append (Kd.int .u32) (w0 := w) w.heap.size rfl (.tmp 46) (.tmp 49) 101 118 (.int .u32 0) 4 rfl Tryd.underlying101 info118 rfl (by decide) (by omega) u5 x5_1 ((IntKind.u64.wrap (x6_1 + (IntKind.u64.wrap (rd l1 x7_1)))) % 4294967296) [.int .u32 ((IntKind.u64.wrap (x6_1 + (IntKind.u64.wrap (rd l1 x7_1)))) % 4294967296)] (fun k_ => (w.heap.size ≤ k_)) (fun _ => False) rfl rfl ?aP (fun _ hk => hk.elim) ?aF ?aO ?aB ?aS ?aL ?_; (case aP => exact rfl); (case aB => exact tB); (case aF => exact (fun k_ hk => (Nat.le_trans (below_size tB) hk))); (case aO => exact (tR HO_5.out)); (case aS => exact (below_size tB)); (case aL => have := LMc16.out; omega); intro v114 w17 ho hb hg hat; rw [← Ny113.out] at ho; have n0_ := Aside0.mk (hb); have n1_ := Aside0.mk (ho); clear HB; clear HO_5; have HB := n0_; have HO115 := n1_; clear n0_ n1_; clear ho hb hg hat))
          go_roundg kj2
          case measure => have := HK1.out; have := HJ2.out; omega
          case rel => exact ⟨(y113), ((IntKind.u64.wrap (x6_1 + (IntKind.u64.wrap (rd l1 x7_1)))) / 4294967296), (wrap64 (x7_1 + 1)), (by first | rfl | (simp; done) | (simp only [i64_w]; done) | (simp [*]; done)), (by first | rfl | (simp; done) | (simp only [i64_w]; done) | (simp [*]; done)), H', ⟨by have := HK1.out; have := HJ2.out; omega⟩, ⟨tR HO115.out⟩, ⟨tB⟩⟩
         ·rw [if_neg c16] at H
          exact absurd H (by simp)
        ·rw [if_neg c15] at H
         exact absurd H (by simp)
       ·rw [if_neg c14] at H
        have c14b0 := decide_eq_false c14
        clear c14
        by_cases c18 : x5_1.length < 35184372088832
        ·rw [if_pos c18] at H
         have LMc18 := Aside0.mk c18
         clear c18
         obtain ⟨y116, hy116⟩ : ∃ y_ : List Int, y_ = (x5_1 ++ [(x6_1) % 4294967296]) := ⟨_, rfl⟩
         replace H : (earshotref01_plus.l0 kj2 l0 l1 y116 (x6_1 / 4294967296) (wrap64 (x7_1 + 1))) = some r := by first | (rw [hy116]; with_reducible exact H) | (have H2_ := (Option.bind_some _ _).symm.trans H; rw [hy116]; with_reducible exact H2_) | (have H2_ := (Option.bind_some _ _).symm.trans H; with_reducible exact H2_) | with_reducible exact H | (rw [hy116]; exact H) | exact H
         have Ny116 := Aside0.mk hy116
         clear hy116
         have H' := Aside0.mk H
         clear H
         go_wp2_with (first | ((with_reducible refine gate_builtin (b := .append) (xs := #[.tmp 46, .tmp 49]) rfl ?_); (try (refine gate_guard (by rfl) ?_; dsimp only)); at_builtin; refine Kd.R_append (Kd.int .u32) (w0 := w) w.heap.size rfl (.tmp 46) (.tmp 49) 101 118 (.int .u32 0) 4 rfl Tryd.underlying101 info118 rfl (by decide) (by omega) u5 x5_1 ((x6_1) % 4294967296) [.int .u32 ((x6_1) % 4294967296)] (fun k_ => (w.heap.size ≤ k_)) (fun _ => False) rfl rfl ?aP (fun _ hk => hk.elim) ?aF ?aO ?aB ?aS ?aL ?_; (case aP => exact rfl); (case aB => exact tB); (case aF => exact (fun k_ hk => (Nat.le_trans (below_size tB) hk))); (case aO => exact (tR HO_5.out)); (case aS => exact (below_size tB)); (case aL => have := LMc18.out; omega); intro v117 w19 ho hb hg hat; rw [← Ny116.out] at ho; have n0_ := Aside0.mk (hb); have n1_ := Aside0.mk (ho); clear HB; clear HO_5; have HB := n0_; have HO118 := n1_; clear n0_ n1_; clear ho hb hg hat))
         go_roundg kj2
         case measure => have := HK1.out; have := HJ2.out; omega
         case rel => exact ⟨(y116), (x6_1 / 4294967296), (wrap64 (x7_1 + 1)), (by first | rfl | (simp; done) | (simp only [i64_w]; done) | (simp [*]; done)), (by first | rfl | (simp; done) | (simp only [i64_w]; done) | (simp [*]; done)), H', ⟨by have := HK1.out; have := HJ2.out; omega⟩, ⟨tR HO118.out⟩, ⟨tB⟩⟩
        ·rw [if_neg c18] at H
         exact absurd H (by simp)
     ·replace c6 := Bool.eq_false_iff.mpr c6
      subst c6
      have H1 : ((earshotref01_trim.f kj2 x5_1).bind fun t101 => (some t101)) = some r := by rw [if_neg (show ¬ (false = true) by decide)] at H; exact H
      clear H
      have H := H1
      clear H1
      replace H := Option.bind_eq_some_iff.mp H
      obtain ⟨t101, A200, H⟩ := H
      try dsimp only at H
      have A20 := Aside0.mk A200
      clear A200
      obtain rfl := Option.some.inj H
      obtain ⟨Ao21, co21, eo21⟩ := Kd.R_slice HO_5.out
      subst eo21
      go_wp2_with (first | ((with_reducible refine gate_callee (f := 133) rfl ?_); refine goesL_ (some 54) rfl rfl Tryd.func133 (by kernel_rfl) rfl #[.slice Ao21 x5_1.length co21] rfl tL ?_; (with_reducible refine (earshotref01_trim.calls kj2 (fun k_ => some k_ = (.slice Ao21 x5_1.length co21 : Value).ownBlock) _ _ x5_1 t101 _ ?side1 A20.out).mono ?_); (case side1 => exact Kd.R_V (Kd.R_tight rfl (HO_5.out))); rintro e w22 ⟨v102, rfl, ho0, hb⟩; refine ⟨_, rfl, ?_⟩; have HO103 := Aside0.mk (Kd.V_lower (Kd.V_mono (ok' := fun k_ => (w.heap.size ≤ k_)) ho0 (fun k_ hk_ => Or.elim hk_ (fun hs_ => ((HO_5.out).1 k_ hs_.symm)) (fun hn_ => (Nat.le_trans (below_size tB) hn_)))) (below_size tB)); replace HO_5 := Aside0.mk (Kd.R_below (tR HO_5.out) hb); replace HB := Aside0.mk (below_step tB hb); (try clear hb); (try clear hb2); (try clear hk); (try clear hi); (try clear ho0)))
      go_ret
      exact ⟨_, by first | rfl | (simp [errW_none, errW_some] <;> rfl) | (simp [*, errW_none, errW_some] <;> rfl), tV HO103.out, tB⟩

/-! ### earshotref01_Add: function 156 -/
def earshotref01_Add.f (k : Nat) (a0_0 : Bool) (l0_1 : List Int) (l0_2 : List Int) (a1_0 : Bool) (l1_1 : List Int) (l1_2 : List Int) : Option (Bool × List Int × List Int) := (earshotref01_trim.f k l0_1).bind fun t104 => ((earshotref01_low.f k a1_0 l1_1 l1_2).bind fun t107 => ((earshotref01_times.f k t104 t107).bind fun t110 => ((earshotref01_trim.f k l1_1).bind fun t113 => ((earshotref01_low.f k a0_0 l0_1 l0_2).bind fun t116 => ((earshotref01_times.f k t113 t116).bind fun t119 => ((earshotref01_low.f k a0_0 l0_1 l0_2).bind fun t122 => ((earshotref01_low.f k a1_0 l1_1 l1_2).bind fun t125 => ((earshotref01_times.f k t122 t125).bind fun t128 => (if (a0_0 == a1_0) = true then ((earshotref01_plus.f k t110 t119).bind fun t131 => ((earshotref01_make1.f k a0_0 t131 t128).bind fun bt134 => (some (bt134.1, bt134.2.1, bt134.2.2)))) else ((earshotref01_order.f k t110 t119).bind fun t141 => (if t141 ≥ 0 then ((earshotref01_minus.f k t110 t119).bind fun t142 => ((earshotref01_make1.f k a0_0 t142 t128).bind fun bt145 => (some (bt145.1, bt145.2.1, bt145.2.2)))) else ((earshotref01_minus.f k t119 t110).bind fun t152 => ((earshotref01_make1.f k a1_0 t152 t128).bind fun bt155 => (some (bt155.1, bt155.2.1, bt155.2.2)))))))))))))))
theorem earshotref01_Add.mono : ∀ a0 a1 a2 a3 a4 a5 k, LeO (earshotref01_Add.f k a0 a1 a2 a3 a4 a5) (earshotref01_Add.f (k + 1) a0 a1 a2 a3 a4 a5) := by
 intro a0 a1 a2 a3 a4 a5 k
 unfold earshotref01_Add.f
 repeat' first
   | (with_reducible exact earshotref01_low.mono _ _ _ _)
   | (with_reducible exact earshotref01_make1.mono _ _ _ _)
   | (with_reducible exact earshotref01_minus.mono _ _ _)
   | (with_reducible exact earshotref01_order.mono _ _ _)
   | (with_reducible exact earshotref01_plus.mono _ _ _)
   | (with_reducible exact earshotref01_times.mono _ _ _)
   | (with_reducible exact earshotref01_trim.mono _ _)
   | (with_reducible exact LeO.refl _)
   | (with_reducible exact LeO.none _)
   | (with_reducible refine LeO.ite ?_ ?_)
   | (with_reducible refine LeO.bind ?_ (fun _ => ?_))
   | exact earshotref01_low.mono _ _ _ _
   | exact earshotref01_make1.mono _ _ _ _
   | exact earshotref01_minus.mono _ _ _
   | exact earshotref01_order.mono _ _ _
   | exact earshotref01_plus.mono _ _ _
   | exact earshotref01_times.mono _ _ _
   | exact earshotref01_trim.mono _ _
   | exact LeO.none _
   | refine LeO.ite ?_ ?_
   | refine LeO.bind ?_ (fun _ => ?_)
def earshotref01_Add.T1 : Bool × List (List Nat × List Nat) := (true, [([], []), ([0], [0]), ([1], [1]), ([], []), ([3, 2], [3]), ([2, 4, 4], [2, 4]), ([], []), ([6], [6]), ([7, 5], [7]), ([], []), ([9, 8], [9]), ([8, 10, 10], [8, 10]), ([], []), ([12, 11], [12]), ([], []), ([14, 13], [14]), ([13, 15, 15], [13, 15]), ([5, 16, 0, 1, 2, 3, 4, 5], [5]), ([11, 17, 0, 1, 2, 3, 4, 5, 6, 7, 8, 9, 10, 11, 17], [11]), ([16, 18, 0, 1, 2, 3, 4, 5, 6, 7, 8, 9, 10, 11, 12, 13, 14, 15, 16, 17, 18], [16])])
def earshotref01_Add.B1 : List Nat := [0, 1, 3, 0, 15, 31, 0, 64, 255, 0, 1023, 2047, 0, 8191, 0, 32767, 65535, 131071, 262143, 524287]
theorem earshotref01_Add.tab1 : rtab .any (opsOf Tryd.f156 1) = earshotref01_Add.T1 := by kernel_rfl
theorem earshotref01_Add.bits1 : waitsOk earshotref01_Add.T1.2 earshotref01_Add.B1 = true := by kernel_rfl
def earshotref01_Add.T3 : Bool × List (List Nat × List Nat) := (true, [([], []), ([0], [0]), ([], []), ([], []), ([2, 3], [2, 3]), ([], []), ([1, 4, 5, 4], [1, 4, 5]), ([6, 6, 0, 1, 2, 3, 4, 5, 6], [6])])
def earshotref01_Add.B3 : List Nat := [0, 1, 0, 0, 12, 0, 63, 127]
theorem earshotref01_Add.tab3 : rtab .any (opsOf Tryd.f156 3) = earshotref01_Add.T3 := by kernel_rfl
theorem earshotref01_Add.bits3 : waitsOk earshotref01_Add.T3.2 earshotref01_Add.B3 = true := by kernel_rfl
def earshotref01_Add.T5 : Bool × List (List Nat × List Nat) := (true, [([], []), ([0], [0]), ([], []), ([], []), ([2, 3], [2, 3]), ([], []), ([1, 4, 5, 4], [1, 4, 5]), ([6, 6, 0, 1, 2, 3, 4, 5, 6], [6])])
def earshotref01_Add.B5 : List Nat := [0, 1, 0, 0, 12, 0, 63, 127]
theorem earshotref01_Add.tab5 : rtab .any (opsOf Tryd.f156 5) = earshotref01_Add.T5 := by kernel_rfl
theorem earshotref01_Add.bits5 : waitsOk earshotref01_Add.T5.2 earshotref01_Add.B5 = true := by kernel_rfl
def earshotref01_Add.T6 : Bool × List (List Nat × List Nat) := (true, [([], []), ([0], [0]), ([], []), ([], []), ([2, 3], [2, 3]), ([], []), ([1, 4, 5, 4], [1, 4, 5]), ([6, 6, 0, 1, 2, 3, 4, 5, 6], [6])])
def earshotref01_Add.B6 : List Nat := [0, 1, 0, 0, 12, 0, 63, 127]
theorem earshotref01_Add.tab6 : rtab .any (opsOf Tryd.f156 6) = earshotref01_Add.T6 := by kernel_rfl
theorem earshotref01_Add.bits6 : waitsOk earshotref01_Add.T6.2 earshotref01_Add.B6 = true := by kernel_rfl
set_option maxHeartbeats 8000000 in
set_option maxRecDepth 100000 in
theorem earshotref01_Add.calls (k : Nat) (a0_0 : Bool) (A0_1 : Option Addr) (c0_1 : Nat) (l0_1 : List Int) (A0_2 : Option Addr) (c0_2 : Nat) (l0_2 : List Int) (a1_0 : Bool) (A1_1 : Option Addr) (c1_1 : Nat) (l1_1 : List Int) (A1_2 : Option Addr) (c1_2 : Nat) (l1_2 : List Int) (r1 : Bool) (r2 : List Int) (r3 : List Int) (w : World) (hr0_1 : Kd.C (Kd.int .u32) w A0_1 l0_1.length l0_1) (hc0_1 : l0_1.length ≤ c0_1) (hr0_2 : Kd.C (Kd.int .u32) w A0_2 l0_2.length l0_2) (hc0_2 : l0_2.length ≤ c0_2) (hr1_1 : Kd.C (Kd.int .u32) w A1_1 l1_1.length l1_1) (hc1_1 : l1_1.length ≤ c1_1) (hr1_2 : Kd.C (Kd.int .u32) w A1_2 l1_2.length l1_2) (hc1_2 : l1_2.length ≤ c1_2) (h : earshotref01_Add.f k a0_0 l0_1 l0_2 a1_0 l1_1 l1_2 = some (r1, r2, r3)) :
  Calls Tryd.prog 156 #[.agg #[.bool a0_0, .slice A0_1 l0_1.length c0_1, .slice A0_2 l0_2.length c0_2], .agg #[.bool a1_0, .slice A1_1 l1_1.length c1_1, .slice A1_2 l1_2.length c1_2]] w fun e w' => ∃ v1_ v2_ : Value, e = .returned (.agg #[.bool r1, v1_, v2_]) ∧ Kd.R (Kd.int .u32) 118 w' w.heap.size (fun k_ => some k_ ≠ (v2_ : Value).ownBlock) v1_ r2 ∧ Kd.R (Kd.int .u32) 118 w' w.heap.size (fun k_ => some k_ ≠ (v1_ : Value).ownBlock) v2_ r3 ∧ Below w.heap.size w w' := by
 have hu103 := Tryd.underlying103
 have HR0_1 := Aside0.mk hr0_1
 have HC0_1 := Aside0.mk hc0_1
 clear hr0_1 hc0_1
 have HR0_2 := Aside0.mk hr0_2
 have HC0_2 := Aside0.mk hc0_2
 clear hr0_2 hc0_2
 have HR1_1 := Aside0.mk hr1_1
 have HC1_1 := Aside0.mk hc1_1
 clear hr1_1 hc1_1
 have HR1_2 := Aside0.mk hr1_2
 have HC1_2 := Aside0.mk hc1_2
 clear hr1_2 hc1_2
 have HB := Aside0.mk (Below.refl w.heap.size w)
 have H : ((earshotref01_trim.f k l0_1).bind fun t104 => ((earshotref01_low.f k a1_0 l1_1 l1_2).bind fun t107 => ((earshotref01_times.f k t104 t107).bind fun t110 => ((earshotref01_trim.f k l1_1).bind fun t113 => ((earshotref01_low.f k a0_0 l0_1 l0_2).bind fun t116 => ((earshotref01_times.f k t113 t116).bind fun t119 => ((earshotref01_low.f k a0_0 l0_1 l0_2).bind fun t122 => ((earshotref01_low.f k a1_0 l1_1 l1_2).bind fun t125 => ((earshotref01_times.f k t122 t125).bind fun t128 => (if (a0_0 == a1_0) = true then ((earshotref01_plus.f k t110 t119).bind fun t131 => ((earshotref01_make1.f k a0_0 t131 t128).bind fun bt134 => (some (bt134.1, bt134.2.1, bt134.2.2)))) else ((earshotref01_order.f k t110 t119).bind fun t141 => (if t141 ≥ 0 then ((earshotref01_minus.f k t110 t119).bind fun t142 => ((earshotref01_make1.f k a0_0 t142 t128).bind fun bt145 => (some (bt145.1, bt145.2.1, bt145.2.2)))) else ((earshotref01_minus.f k t119 t110).bind fun t152 => ((earshotref01_make1.f k a1_0 t152 t128).bind fun bt155 => (some (bt155.1, bt155.2.1, bt155.2.2)))))))))))))))) = some (r1, r2, r3) := h
 clear h
 replace H := Option.bind_eq_some_iff.mp H
 obtain ⟨t104, A30, H⟩ := H
 try dsimp only at H
 have A3 := Aside0.mk A30
 clear A30
 replace H := Option.bind_eq_some_iff.mp H
 obtain ⟨t107, A40, H⟩ := H
 try dsimp only at H
 have A4 := Aside0.mk A40
 clear A40
 replace H := Option.bind_eq_some_iff.mp H
 obtain ⟨t110, A50, H⟩ := H
 try dsimp only at H
 have A5 := Aside0.mk A50
 clear A50
 replace H := Option.bind_eq_some_iff.mp H
 obtain ⟨t113, A60, H⟩ := H
 try dsimp only at H
 have A6 := Aside0.mk A60
 clear A60
 replace H := Option.bind_eq_some_iff.mp H
 obtain ⟨t116, A70, H⟩ := H
 try dsimp only at H
 have A7 := Aside0.mk A70
 clear A70
 replace H := Option.bind_eq_some_iff.mp H
 obtain ⟨t119, A80, H⟩ := H
 try dsimp only at H
 have A8 := Aside0.mk A80
 clear A80
 replace H := Option.bind_eq_some_iff.mp H
 obtain ⟨t122, A90, H⟩ := H
 try dsimp only at H
 have A9 := Aside0.mk A90
 clear A90
 replace H := Option.bind_eq_some_iff.mp H
 obtain ⟨t125, A100, H⟩ := H
 try dsimp only at H
 have A10 := Aside0.mk A100
 clear A100
 replace H := Option.bind_eq_some_iff.mp H
 obtain ⟨t128, A110, H⟩ := H
 try dsimp only at H
 have A11 := Aside0.mk A110
 clear A110
 by_cases c12 : (a0_0 == a1_0) = true
 ·rw [if_pos c12] at H
  have c12b0 : (a0_0 == a1_0) = true := c12
  (try (have c12b1 : decide (a0_0 = a1_0) = true := by simpa using c12))
  (try (have c12b2 : (a0_0 == a1_0) = true := by simpa using c12))
  clear c12
  replace H := Option.bind_eq_some_iff.mp H
  obtain ⟨t131, A130, H⟩ := H
  try dsimp only at H
  have A13 := Aside0.mk A130
  clear A130
  replace H := Option.bind_eq_some_iff.mp H
  obtain ⟨⟨t134, t135, t138⟩, A140, H⟩ := H
  try dsimp only at H
  have A14 := Aside0.mk A140
  clear A140
  simp only [Option.some.injEq, Prod.mk.injEq] at H
  obtain ⟨rfl, rfl, rfl⟩ := H
  go_enter Tryd.func156, Tryd.ntmps156
  try go_wp2_with (first | ((with_reducible refine gate_dst (N := 2) rfl ?_); refine box_event ?hg (N := 2) ?hd (cs := #[.bool a0_0, .slice A0_1 l0_1.length c0_1, .slice A0_2 l0_2.length c0_2]) (t := 103) ?hr ?_; (case hd => rfl); (case hg => rfl); (case hr => first | (go_simp; done) | (go_simp; rfl)); intro gb101 hg w15 hbox hb; have BK101 := Aside0.mk (hbox); have GW101 := Aside0.mk ((by rw [hg]; exact (below_size tB) : w.heap.size ≤ gb101)); have GE101 := Aside0.mk ((by rw [hg]; exact (below_size tB) : w.heap.size ≤ gb101)); replace HB := Aside0.mk (below_step tB hb); clear hb hbox hg) | ((with_reducible refine gate_dst (N := 3) rfl ?_); refine box_event ?hg (N := 3) ?hd (cs := #[.bool a1_0, .slice A1_1 l1_1.length c1_1, .slice A1_2 l1_2.length c1_2]) (t := 103) ?hr ?_; (case hd => rfl); (case hg => rfl); (case hr => first | (go_simp; done) | (go_simp; rfl)); intro gb102 hg w16 hbox hb; have BK102 := Aside0.mk (hbox); have GW102 := Aside0.mk ((by rw [hg]; exact (below_size tG) : w.heap.size ≤ gb102)); have GE102 := Aside0.mk ((by rw [hg]; exact (below_size tG) : w.heap.size ≤ gb102)); replace HB := Aside0.mk (below_step tG hb); have NB101_102 := Aside0.mk ((by rw [hg]; exact Nat.ne_of_lt (blk_lt (g := gb101) (tK BK101.out)) : gb101 ≠ gb102)); have NB102_101 := Aside0.mk ((by rw [hg]; exact Nat.ne_of_gt (blk_lt (g := gb101) (tK BK101.out)) : gb102 ≠ gb101)); replace BK101 := Aside0.mk (blk_below (g := gb101) (tK BK101.out) hb); clear hb hbox hg) | ((with_reducible refine gate_dst (N := 4) rfl ?_); refine box_event ?hg (N := 4) ?hd (cs := #[.bool false, .slice none 0 0, .slice none 0 0]) (t := 103) ?hr ?_; (case hd => rfl); (case hg => rfl); (case hr => first | (go_simp; done) | (go_simp; rfl)); intro gb103 hg w17 hbox hb; have BK103 := Aside0.mk (hbox); have GW103 := Aside0.mk ((by rw [hg]; exact (below_size tG) : w.heap.size ≤ gb103)); have GE103 := Aside0.mk ((by rw [hg]; exact (below_size tG) : w.heap.size ≤ gb103)); replace HB := Aside0.mk (below_step tG hb); have NB101_103 := Aside0.mk ((by rw [hg]; exact Nat.ne_of_lt (blk_lt (g := gb101) (tK BK101.out)) : gb101 ≠ gb103)); have NB103_101 := Aside0.mk ((by rw [hg]; exact Nat.ne_of_gt (blk_lt (g := gb101) (tK BK101.out)) : gb103 ≠ gb101)); replace BK101 := Aside0.mk (blk_below (g := gb101) (tK BK101.out) hb); have NB102_103 := Aside0.mk ((by rw [hg]; exact Nat.ne_of_lt (blk_lt (g := gb102) (tK BK102.out)) : gb102 ≠ gb103)); have NB103_102 := Aside0.mk ((by rw [hg]; exact Nat.ne_of_gt (blk_lt (g := gb102) (tK BK102.out)) : gb103 ≠ gb102)); replace BK102 := Aside0.mk (blk_below (g := gb102) (tK BK102.out) hb); clear hb hbox hg))
  replace BK101 := Aside0.mk (blk_drew BK101.out)
  replace BK102 := Aside0.mk (blk_drew BK102.out)
  replace BK103 := Aside0.mk (blk_drew BK103.out)
  replace HB := Aside0.mk (below_drew1 HB.out)
  refine start_ (n := 20) (S := fun w' => w'.cell? ⟨gb101, 0, none⟩ = some (.bool a0_0) ∧ w'.cell? ⟨gb101, 1, none⟩ = some (.slice A0_1 l0_1.length c0_1) ∧ w'.cell? ⟨gb101, 2, none⟩ = some (.slice A0_2 l0_2.length c0_2) ∧ w'.cell? ⟨gb102, 0, none⟩ = some (.bool a1_0) ∧ w'.cell? ⟨gb102, 1, none⟩ = some (.slice A1_1 l1_1.length c1_1) ∧ w'.cell? ⟨gb102, 2, none⟩ = some (.slice A1_2 l1_2.length c1_2)) (ds := []) (bm 0 20) (by kernel_rfl) rfl rfl ⟨(blk_cell BK101.out 0).trans rfl, (blk_cell BK101.out 1).trans rfl, (blk_cell BK101.out 2).trans rfl, (blk_cell BK102.out 0).trans rfl, (blk_cell BK102.out 1).trans rfl, (blk_cell BK102.out 2).trans rfl⟩ (fun hHeld => ?_); refine with_tabW earshotref01_Add.tab1 earshotref01_Add.bits1 (fun HT_ HW_ => ?_)
  generalize w17.drew = w18 at BK101 BK102 BK103 HB hHeld ⊢
  refine pI 0 (some 8) (bm 1 20) HT_.out ?_
  refine pI 6 (some 14) (bq 65 20) HT_.out ?_
  refine tk6 1 (some 9) (bq 67 20) HT_.out HW_.out hHeld ?_
  refine tk6 3 (some 11) (bq 75 20) HT_.out HW_.out hHeld ?_
  refine tk6 7 (some 15) (bq 203 20) HT_.out HW_.out hHeld ?_
  refine tk6 9 (some 17) (bq 715 20) HT_.out HW_.out hHeld ?_
  refine tk6 12 (some 20) (bq 4811 20) HT_.out HW_.out hHeld ?_
  refine tk6 14 (some 22) (bq 21195 20) HT_.out HW_.out hHeld ?_
  refine one_ (i := 2) (N := some 10) (bq 21199 20) rfl rfl (one_of HT_.out (by kernel_rfl)) (by decide) (fun K hK => ?_)
  refine goes_ Tryd.func133 (by kernel_rfl) rfl #[.slice A0_1 l0_1.length c0_1] (by rfl) rfl rfl tL ?_
  with_reducible refine (earshotref01_trim.calls k (fun k_ => k_ < w.heap.size) _ _ l0_1 t104 _ ?side1 A3.out).mono ?_
  (case side1 => exact Kd.V_mk HC0_1.out (Kd.F_below (Kd.C_F (Kd.heap_int .u32) HR0_1.out) tG))
  rintro e w19 ⟨v105, rfl, ho0, hb⟩
  refine ⟨_, rfl, ?_⟩
  have HO106 := Aside0.mk (Kd.V_lower (Kd.V_mono (ok' := fun k_ => k_ ≠ gb101 ∧ k_ ≠ gb102 ∧ k_ ≠ gb103) ho0 (fun k_ hk_ => ⟨Or.elim hk_ (fun hs_ => fun e_ => Nat.not_le.2 hs_ (by rw [e_]; exact GW101.out)) (fun hn_ => (Kd.freshB (g := gb101) (tK BK101.out) k_ hn_)), Or.elim hk_ (fun hs_ => fun e_ => Nat.not_le.2 hs_ (by rw [e_]; exact GW102.out)) (fun hn_ => (Kd.freshB (g := gb102) (tK BK102.out) k_ hn_)), Or.elim hk_ (fun hs_ => fun e_ => Nat.not_le.2 hs_ (by rw [e_]; exact GW103.out)) (fun hn_ => (Kd.freshB (g := gb103) (tK BK103.out) k_ hn_))⟩)) (below_size tG))
  replace BK101 := Aside0.mk (blk_below (g := gb101) (tK BK101.out) hb)
  replace BK102 := Aside0.mk (blk_below (g := gb102) (tK BK102.out) hb)
  replace BK103 := Aside0.mk (blk_below (g := gb103) (tK BK103.out) hb)
  replace HB := Aside0.mk (below_step tG hb)
  (try clear hb)
  (try clear hb2)
  (try clear hk)
  (try clear hi)
  (try clear ho0)
  refine hK.out _ _ ⟨(blk_cell BK101.out 0).trans rfl, (blk_cell BK101.out 1).trans rfl, (blk_cell BK101.out 2).trans rfl, (blk_cell BK102.out 0).trans rfl, (blk_cell BK102.out 1).trans rfl, (blk_cell BK102.out 2).trans rfl⟩ (fun hHeld => ?_)
  clear hK K
  refine nm ?_
  refine one_ (i := 4) (N := some 12) (bq 21215 20) rfl rfl (one_of HT_.out (by kernel_rfl)) (by decide) (fun K hK => ?_)
  refine goes_ Tryd.func134 (by kernel_rfl) rfl #[.agg #[.bool a1_0, .slice A1_1 l1_1.length c1_1, .slice A1_2 l1_2.length c1_2]] (by rfl) rfl rfl tL ?_
  with_reducible refine (earshotref01_low.calls k a1_0 _ _ l1_1 (fun k_ => k_ < w.heap.size) _ _ l1_2 t107 _ ?side1 ?side2 ?side3 A4.out).mono ?_
  (case side1 => exact tC (Kd.C_below HR1_1.out HB.out))
  (case side2 => exact HC1_1.out)
  (case side3 => exact Kd.V_mk HC1_2.out (Kd.F_below (Kd.C_F (Kd.heap_int .u32) HR1_2.out) tG))
  rintro e w20 ⟨v108, rfl, ho0, hb⟩
  refine ⟨_, rfl, ?_⟩
  replace HO106 := Aside0.mk (Kd.V_below (tV HO106.out) hb)
  have HO109 := Aside0.mk (Kd.V_lower (Kd.V_mono (ok' := fun k_ => k_ ≠ gb101 ∧ k_ ≠ gb102 ∧ k_ ≠ gb103) ho0 (fun k_ hk_ => ⟨Or.elim hk_ (fun hs_ => fun e_ => Nat.not_le.2 hs_ (by rw [e_]; exact GW101.out)) (fun hn_ => (Kd.freshB (g := gb101) (tK BK101.out) k_ hn_)), Or.elim hk_ (fun hs_ => fun e_ => Nat.not_le.2 hs_ (by rw [e_]; exact GW102.out)) (fun hn_ => (Kd.freshB (g := gb102) (tK BK102.out) k_ hn_)), Or.elim hk_ (fun hs_ => fun e_ => Nat.not_le.2 hs_ (by rw [e_]; exact GW103.out)) (fun hn_ => (Kd.freshB (g := gb103) (tK BK103.out) k_ hn_))⟩)) (below_size tG))
  replace BK101 := Aside0.mk (blk_below (g := gb101) (tK BK101.out) hb)
  replace BK102 := Aside0.mk (blk_below (g := gb102) (tK BK102.out) hb)
  replace BK103 := Aside0.mk (blk_below (g := gb103) (tK BK103.out) hb)
  replace HB := Aside0.mk (below_step tG hb)
  (try clear hb)
  (try clear hb2)
  (try clear hk)
  (try clear hi)
  (try clear ho0)
  obtain ⟨Ao21, co21, eo21⟩ := Kd.V_slice HO106.out
  (first | subst eo21 | (injection eo21 with f1_ f2_ f3_; have f4_ := f1_.symm; have f5_ := f3_.symm; clear f1_ f2_ f3_; subst f4_; subst f5_))
  obtain ⟨Ao22, co22, eo22⟩ := Kd.V_slice HO109.out
  (first | subst eo22 | (injection eo22 with f1_ f2_ f3_; have f4_ := f1_.symm; have f5_ := f3_.symm; clear f1_ f2_ f3_; subst f4_; subst f5_))
  refine hK.out _ _ ⟨(blk_cell BK101.out 0).trans rfl, (blk_cell BK101.out 1).trans rfl, (blk_cell BK101.out 2).trans rfl, (blk_cell BK102.out 0).trans rfl, (blk_cell BK102.out 1).trans rfl, (blk_cell BK102.out 2).trans rfl⟩ (fun hHeld => ?_)
  clear hK K
  refine nm ?_
  refine one_ (i := 5) (N := some 13) (bq 21247 20) rfl rfl (one_of HT_.out (by kernel_rfl)) (by decide) (fun K hK => ?_)
  refine goes_ Tryd.func132 (by kernel_rfl) rfl #[.slice Ao21 t104.length co21, .slice Ao22 t107.length co22] (by rfl) rfl rfl tL ?_
  with_reducible refine (earshotref01_times.calls k _ _ t104 _ _ t107 t110 _ ?side1 ?side2 ?side3 ?side4 A5.out).mono ?_
  (case side1 => exact tC (Kd.V_reads' HO106.out).2.2)
  (case side2 => exact (Kd.V_reads' HO106.out).2.1)
  (case side3 => exact tC (Kd.V_reads' HO109.out).2.2)
  (case side4 => exact (Kd.V_reads' HO109.out).2.1)
  rintro e w23 ⟨v111, rfl, ho0, hb⟩
  refine ⟨_, rfl, ?_⟩
  replace HO106 := Aside0.mk (Kd.V_below (tV HO106.out) hb)
  replace HO109 := Aside0.mk (Kd.V_below (tV HO109.out) hb)
  have HO112 := Aside0.mk (Kd.V_lower (Kd.V_mono (ok' := fun k_ => k_ ≠ gb101 ∧ k_ ≠ gb102 ∧ k_ ≠ gb103) ho0 (fun k_ hk_ => ⟨(Kd.freshB (g := gb101) (tK BK101.out) k_ hk_), (Kd.freshB (g := gb102) (tK BK102.out) k_ hk_), (Kd.freshB (g := gb103) (tK BK103.out) k_ hk_)⟩)) (below_size tG))
  replace BK101 := Aside0.mk (blk_below (g := gb101) (tK BK101.out) hb)
  replace BK102 := Aside0.mk (blk_below (g := gb102) (tK BK102.out) hb)
  replace BK103 := Aside0.mk (blk_below (g := gb103) (tK BK103.out) hb)
  replace HB := Aside0.mk (below_step tG hb)
  (try clear hb)
  (try clear hb2)
  (try clear hk)
  (try clear hi)
  (try clear ho0)
  refine hK.out _ _ ⟨(blk_cell BK101.out 0).trans rfl, (blk_cell BK101.out 1).trans rfl, (blk_cell BK101.out 2).trans rfl, (blk_cell BK102.out 0).trans rfl, (blk_cell BK102.out 1).trans rfl, (blk_cell BK102.out 2).trans rfl⟩ (fun hHeld => ?_)
  clear hK K
  refine nm ?_
  refine one_ (i := 8) (N := some 16) (bq 21503 20) rfl rfl (one_of HT_.out (by kernel_rfl)) (by decide) (fun K hK => ?_)
  refine goes_ Tryd.func133 (by kernel_rfl) rfl #[.slice A1_1 l1_1.length c1_1] (by rfl) rfl rfl tL ?_
  with_reducible refine (earshotref01_trim.calls k (fun k_ => k_ < w.heap.size) _ _ l1_1 t113 _ ?side1 A6.out).mono ?_
  (case side1 => exact Kd.V_mk HC1_1.out (Kd.F_below (Kd.C_F (Kd.heap_int .u32) HR1_1.out) tG))
  rintro e w24 ⟨v114, rfl, ho0, hb⟩
  refine ⟨_, rfl, ?_⟩
  replace HO106 := Aside0.mk (Kd.V_below (tV HO106.out) hb)
  replace HO109 := Aside0.mk (Kd.V_below (tV HO109.out) hb)
  replace HO112 := Aside0.mk (Kd.V_below (tV HO112.out) hb)
  have HO115 := Aside0.mk (Kd.V_lower (Kd.V_mono (ok' := fun k_ => k_ ≠ gb101 ∧ k_ ≠ gb102 ∧ k_ ≠ gb103) ho0 (fun k_ hk_ => ⟨Or.elim hk_ (fun hs_ => fun e_ => Nat.not_le.2 hs_ (by rw [e_]; exact GW101.out)) (fun hn_ => (Kd.freshB (g := gb101) (tK BK101.out) k_ hn_)), Or.elim hk_ (fun hs_ => fun e_ => Nat.not_le.2 hs_ (by rw [e_]; exact GW102.out)) (fun hn_ => (Kd.freshB (g := gb102) (tK BK102.out) k_ hn_)), Or.elim hk_ (fun hs_ => fun e_ => Nat.not_le.2 hs_ (by rw [e_]; exact GW103.out)) (fun hn_ => (Kd.freshB (g := gb103) (tK BK103.out) k_ hn_))⟩)) (below_size tG))
  replace BK101 := Aside0.mk (blk_below (g := gb101) (tK BK101.out) hb)
  replace BK102 := Aside0.mk (blk_below (g := gb102) (tK BK102.out) hb)
  replace BK103 := Aside0.mk (blk_below (g := gb103) (tK BK103.out) hb)
  replace HB := Aside0.mk (below_step tG hb)
  (try clear hb)
  (try clear hb2)
  (try clear hk)
  (try clear hi)
  (try clear ho0)
  refine hK.out _ _ ⟨(blk_cell BK101.out 0).trans rfl, (blk_cell BK101.out 1).trans rfl, (blk_cell BK101.out 2).trans rfl, (blk_cell BK102.out 0).trans rfl, (blk_cell BK102.out 1).trans rfl, (blk_cell BK102.out 2).trans rfl⟩ (fun hHeld => ?_)
  clear hK K
  refine nm ?_
  refine one_ (i := 10) (N := some 18) (bq 22527 20) rfl rfl (one_of HT_.out (by kernel_rfl)) (by decide) (fun K hK => ?_)
  refine goes_ Tryd.func134 (by kernel_rfl) rfl #[.agg #[.bool a0_0, .slice A0_1 l0_1.length c0_1, .slice A0_2 l0_2.length c0_2]] (by rfl) rfl rfl tL ?_
  with_reducible refine (earshotref01_low.calls k a0_0 _ _ l0_1 (fun k_ => k_ < w.heap.size) _ _ l0_2 t116 _ ?side1 ?side2 ?side3 A7.out).mono ?_
  (case side1 => exact tC (Kd.C_below HR0_1.out HB.out))
  (case side2 => exact HC0_1.out)
  (case side3 => exact Kd.V_mk HC0_2.out (Kd.F_below (Kd.C_F (Kd.heap_int .u32) HR0_2.out) tG))
  rintro e w25 ⟨v117, rfl, ho0, hb⟩
  refine ⟨_, rfl, ?_⟩
  replace HO106 := Aside0.mk (Kd.V_below (tV HO106.out) hb)
  replace HO109 := Aside0.mk (Kd.V_below (tV HO109.out) hb)
  replace HO112 := Aside0.mk (Kd.V_below (tV HO112.out) hb)
  replace HO115 := Aside0.mk (Kd.V_below (tV HO115.out) hb)
  have HO118 := Aside0.mk (Kd.V_lower (Kd.V_mono (ok' := fun k_ => k_ ≠ gb101 ∧ k_ ≠ gb102 ∧ k_ ≠ gb103) ho0 (fun k_ hk_ => ⟨Or.elim hk_ (fun hs_ => fun e_ => Nat.not_le.2 hs_ (by rw [e_]; exact GW101.out)) (fun hn_ => (Kd.freshB (g := gb101) (tK BK101.out) k_ hn_)), Or.elim hk_ (fun hs_ => fun e_ => Nat.not_le.2 hs_ (by rw [e_]; exact GW102.out)) (fun hn_ => (Kd.freshB (g := gb102) (tK BK102.out) k_ hn_)), Or.elim hk_ (fun hs_ => fun e_ => Nat.not_le.2 hs_ (by rw [e_]; exact GW103.out)) (fun hn_ => (Kd.freshB (g := gb103) (tK BK103.out) k_ hn_))⟩)) (below_size tG))
  replace BK101 := Aside0.mk (blk_below (g := gb101) (tK BK101.out) hb)
  replace BK102 := Aside0.mk (blk_below (g := gb102) (tK BK102.out) hb)
  replace BK103 := Aside0.mk (blk_below (g := gb103) (tK BK103.out) hb)
  replace HB := Aside0.mk (below_step tG hb)
  (try clear hb)
  (try clear hb2)
  (try clear hk)
  (try clear hi)
  (try clear ho0)
  obtain ⟨Ao26, co26, eo26⟩ := Kd.V_slice HO115.out
  (first | subst eo26 | (injection eo26 with f1_ f2_ f3_; have f4_ := f1_.symm; have f5_ := f3_.symm; clear f1_ f2_ f3_; subst f4_; subst f5_))
  obtain ⟨Ao27, co27, eo27⟩ := Kd.V_slice HO118.out
  (first | subst eo27 | (injection eo27 with f1_ f2_ f3_; have f4_ := f1_.symm; have f5_ := f3_.symm; clear f1_ f2_ f3_; subst f4_; subst f5_))
  refine hK.out _ _ ⟨(blk_cell BK101.out 0).trans rfl, (blk_cell BK101.out 1).trans rfl, (blk_cell BK101.out 2).trans rfl, (blk_cell BK102.out 0).trans rfl, (blk_cell BK102.out 1).trans rfl, (blk_cell BK102.out 2).trans rfl⟩ (fun hHeld => ?_)
  clear hK K
  refine nm ?_
  refine one_ (i := 11) (N := some 19) (bq 24575 20) rfl rfl (one_of HT_.out (by kernel_rfl)) (by decide) (fun K hK => ?_)
  refine goes_ Tryd.func132 (by kernel_rfl) rfl #[.slice Ao26 t113.length co26, .slice Ao27 t116.length co27] (by rfl) rfl rfl tL ?_
  with_reducible refine (earshotref01_times.calls k _ _ t113 _ _ t116 t119 _ ?side1 ?side2 ?side3 ?side4 A8.out).mono ?_
  (case side1 => exact tC (Kd.V_reads' HO115.out).2.2)
  (case side2 => exact (Kd.V_reads' HO115.out).2.1)
  (case side3 => exact tC (Kd.V_reads' HO118.out).2.2)
  (case side4 => exact (Kd.V_reads' HO118.out).2.1)
  rintro e w28 ⟨v120, rfl, ho0, hb⟩
  refine ⟨_, rfl, ?_⟩
  replace HO106 := Aside0.mk (Kd.V_below (tV HO106.out) hb)
  replace HO109 := Aside0.mk (Kd.V_below (tV HO109.out) hb)
  replace HO112 := Aside0.mk (Kd.V_below (tV HO112.out) hb)
  replace HO115 := Aside0.mk (Kd.V_below (tV HO115.out) hb)
  replace HO118 := Aside0.mk (Kd.V_below (tV HO118.out) hb)
  have HO121 := Aside0.mk (Kd.V_lower (Kd.V_mono (ok' := fun k_ => k_ ≠ gb101 ∧ k_ ≠ gb102 ∧ k_ ≠ gb103) ho0 (fun k_ hk_ => ⟨(Kd.freshB (g := gb101) (tK BK101.out) k_ hk_), (Kd.freshB (g := gb102) (tK BK102.out) k_ hk_), (Kd.freshB (g := gb103) (tK BK103.out) k_ hk_)⟩)) (below_size tG))
  replace BK101 := Aside0.mk (blk_below (g := gb101) (tK BK101.out) hb)
  replace BK102 := Aside0.mk (blk_below (g := gb102) (tK BK102.out) hb)
  replace BK103 := Aside0.mk (blk_below (g := gb103) (tK BK103.out) hb)
  replace HB := Aside0.mk (below_step tG hb)
  (try clear hb)
  (try clear hb2)
  (try clear hk)
  (try clear hi)
  (try clear ho0)
  refine hK.out _ _ ⟨(blk_cell BK101.out 0).trans rfl, (blk_cell BK101.out 1).trans rfl, (blk_cell BK101.out 2).trans rfl, (blk_cell BK102.out 0).trans rfl, (blk_cell BK102.out 1).trans rfl, (blk_cell BK102.out 2).trans rfl⟩ (fun hHeld => ?_)
  clear hK K
  refine nm ?_
  refine one_ (i := 13) (N := some 21) (bm 15 20) rfl rfl (one_of HT_.out (by kernel_rfl)) (by decide) (fun K hK => ?_)
  refine goes_ Tryd.func134 (by kernel_rfl) rfl #[.agg #[.bool a0_0, .slice A0_1 l0_1.length c0_1, .slice A0_2 l0_2.length c0_2]] (by rfl) rfl rfl tL ?_
  with_reducible refine (earshotref01_low.calls k a0_0 _ _ l0_1 (fun k_ => k_ < w.heap.size) _ _ l0_2 t122 _ ?side1 ?side2 ?side3 A9.out).mono ?_
  (case side1 => exact tC (Kd.C_below HR0_1.out HB.out))
  (case side2 => exact HC0_1.out)
  (case side3 => exact Kd.V_mk HC0_2.out (Kd.F_below (Kd.C_F (Kd.heap_int .u32) HR0_2.out) tG))
  rintro e w29 ⟨v123, rfl, ho0, hb⟩
  refine ⟨_, rfl, ?_⟩
  replace HO106 := Aside0.mk (Kd.V_below (tV HO106.out) hb)
  replace HO109 := Aside0.mk (Kd.V_below (tV HO109.out) hb)
  replace HO112 := Aside0.mk (Kd.V_below (tV HO112.out) hb)
  replace HO115 := Aside0.mk (Kd.V_below (tV HO115.out) hb)
  replace HO118 := Aside0.mk (Kd.V_below (tV HO118.out) hb)
  replace HO121 := Aside0.mk (Kd.V_below (tV HO121.out) hb)
  have HO124 := Aside0.mk (Kd.V_lower (Kd.V_mono (ok' := fun k_ => k_ ≠ gb101 ∧ k_ ≠ gb102 ∧ k_ ≠ gb103) ho0 (fun k_ hk_ => ⟨Or.elim hk_ (fun hs_ => fun e_ => Nat.not_le.2 hs_ (by rw [e_]; exact GW101.out)) (fun hn_ => (Kd.freshB (g := gb101) (tK BK101.out) k_ hn_)), Or.elim hk_ (fun hs_ => fun e_ => Nat.not_le.2 hs_ (by rw [e_]; exact GW102.out)) (fun hn_ => (Kd.freshB (g := gb102) (tK BK102.out) k_ hn_)), Or.elim hk_ (fun hs_ => fun e_ => Nat.not_le.2 hs_ (by rw [e_]; exact GW103.out)) (fun hn_ => (Kd.freshB (g := gb103) (tK BK103.out) k_ hn_))⟩)) (below_size tG))
  replace BK101 := Aside0.mk (blk_below (g := gb101) (tK BK101.out) hb)
  replace BK102 := Aside0.mk (blk_below (g := gb102) (tK BK102.out) hb)
  replace BK103 := Aside0.mk (blk_below (g := gb103) (tK BK103.out) hb)
  replace HB := Aside0.mk (below_step tG hb)
  (try clear hb)
  (try clear hb2)
  (try clear hk)
  (try clear hi)
  (try clear ho0)
  refine hK.out _ _ ⟨(blk_cell BK101.out 0).trans rfl, (blk_cell BK101.out 1).trans rfl, (blk_cell BK101.out 2).trans rfl, (blk_cell BK102.out 0).trans rfl, (blk_cell BK102.out 1).trans rfl, (blk_cell BK102.out 2).trans rfl⟩ (fun hHeld => ?_)
  clear hK K
  refine nm ?_
  refine one_ (i := 15) (N := some 23) (bm 16 20) rfl rfl (one_of HT_.out (by kernel_rfl)) (by decide) (fun K hK => ?_)
  refine goes_ Tryd.func134 (by kernel_rfl) rfl #[.agg #[.bool a1_0, .slice A1_1 l1_1.length c1_1, .slice A1_2 l1_2.length c1_2]] (by rfl) rfl rfl tL ?_
  with_reducible refine (earshotref01_low.calls k a1_0 _ _ l1_1 (fun k_ => k_ < w.heap.size) _ _ l1_2 t125 _ ?side1 ?side2 ?side3 A10.out).mono ?_
  (case side1 => exact tC (Kd.C_below HR1_1.out HB.out))
  (case side2 => exact HC1_1.out)
  (case side3 => exact Kd.V_mk HC1_2.out (Kd.F_below (Kd.C_F (Kd.heap_int .u32) HR1_2.out) tG))
  rintro e w30 ⟨v126, rfl, ho0, hb⟩
  refine ⟨_, rfl, ?_⟩
  replace HO106 := Aside0.mk (Kd.V_below (tV HO106.out) hb)
  replace HO109 := Aside0.mk (Kd.V_below (tV HO109.out) hb)
  replace HO112 := Aside0.mk (Kd.V_below (tV HO112.out) hb)
  replace HO115 := Aside0.mk (Kd.V_below (tV HO115.out) hb)
  replace HO118 := Aside0.mk (Kd.V_below (tV HO118.out) hb)
  replace HO121 := Aside0.mk (Kd.V_below (tV HO121.out) hb)
  replace HO124 := Aside0.mk (Kd.V_below (tV HO124.out) hb)
  have HO127 := Aside0.mk (Kd.V_lower (Kd.V_mono (ok' := fun k_ => k_ ≠ gb101 ∧ k_ ≠ gb102 ∧ k_ ≠ gb103) ho0 (fun k_ hk_ => ⟨Or.elim hk_ (fun hs_ => fun e_ => Nat.not_le.2 hs_ (by rw [e_]; exact GW101.out)) (fun hn_ => (Kd.freshB (g := gb101) (tK BK101.out) k_ hn_)), Or.elim hk_ (fun hs_ => fun e_ => Nat.not_le.2 hs_ (by rw [e_]; exact GW102.out)) (fun hn_ => (Kd.freshB (g := gb102) (tK BK102.out) k_ hn_)), Or.elim hk_ (fun hs_ => fun e_ => Nat.not_le.2 hs_ (by rw [e_]; exact GW103.out)) (fun hn_ => (Kd.freshB (g := gb103) (tK BK103.out) k_ hn_))⟩)) (below_size tG))
  replace BK101 := Aside0.mk (blk_below (g := gb101) (tK BK101.out) hb)
  replace BK102 := Aside0.mk (blk_below (g := gb102) (tK BK102.out) hb)
  replace BK103 := Aside0.mk (blk_below (g := gb103) (tK BK103.out) hb)
  replace HB := Aside0.mk (below_step tG hb)
  (try clear hb)
  (try clear hb2)
  (try clear hk)
  (try clear hi)
  (try clear ho0)
  obtain ⟨Ao31, co31, eo31⟩ := Kd.V_slice HO124.out
  (first | subst eo31 | (injection eo31 with f1_ f2_ f3_; have f4_ := f1_.symm; have f5_ := f3_.symm; clear f1_ f2_ f3_; subst f4_; subst f5_))
  obtain ⟨Ao32, co32, eo32⟩ := Kd.V_slice HO127.out
  (first | subst eo32 | (injection eo32 with f1_ f2_ f3_; have f4_ := f1_.symm; have f5_ := f3_.symm; clear f1_ f2_ f3_; subst f4_; subst f5_))
  refine hK.out _ _ ⟨(blk_cell BK101.out 0).trans rfl, (blk_cell BK101.out 1).trans rfl, (blk_cell BK101.out 2).trans rfl, (blk_cell BK102.out 0).trans rfl, (blk_cell BK102.out 1).trans rfl, (blk_cell BK102.out 2).trans rfl⟩ (fun hHeld => ?_)
  clear hK K
  refine nm ?_
  refine one_ (i := 16) (N := some 24) (bm 17 20) rfl rfl (one_of HT_.out (by kernel_rfl)) (by decide) (fun K hK => ?_)
  refine goes_ Tryd.func132 (by kernel_rfl) rfl #[.slice Ao31 t122.length co31, .slice Ao32 t125.length co32] (by rfl) rfl rfl tL ?_
  with_reducible refine (earshotref01_times.calls k _ _ t122 _ _ t125 t128 _ ?side1 ?side2 ?side3 ?side4 A11.out).mono ?_
  (case side1 => exact tC (Kd.V_reads' HO124.out).2.2)
  (case side2 => exact (Kd.V_reads' HO124.out).2.1)
  (case side3 => exact tC (Kd.V_reads' HO127.out).2.2)
  (case side4 => exact (Kd.V_reads' HO127.out).2.1)
  rintro e w33 ⟨v129, rfl, ho0, hb⟩
  refine ⟨_, rfl, ?_⟩
  replace HO106 := Aside0.mk (Kd.V_below (tV HO106.out) hb)
  replace HO109 := Aside0.mk (Kd.V_below (tV HO109.out) hb)
  replace HO112 := Aside0.mk (Kd.V_below (tV HO112.out) hb)
  replace HO115 := Aside0.mk (Kd.V_below (tV HO115.out) hb)
  replace HO118 := Aside0.mk (Kd.V_below (tV HO118.out) hb)
  replace HO121 := Aside0.mk (Kd.V_below (tV HO121.out) hb)
  replace HO124 := Aside0.mk (Kd.V_below (tV HO124.out) hb)
  replace HO127 := Aside0.mk (Kd.V_below (tV HO127.out) hb)
  have HO130 := Aside0.mk (Kd.V_lower (Kd.V_mono (ok' := fun k_ => k_ ≠ gb101 ∧ k_ ≠ gb102 ∧ k_ ≠ gb103) ho0 (fun k_ hk_ => ⟨(Kd.freshB (g := gb101) (tK BK101.out) k_ hk_), (Kd.freshB (g := gb102) (tK BK102.out) k_ hk_), (Kd.freshB (g := gb103) (tK BK103.out) k_ hk_)⟩)) (below_size tG))
  replace BK101 := Aside0.mk (blk_below (g := gb101) (tK BK101.out) hb)
  replace BK102 := Aside0.mk (blk_below (g := gb102) (tK BK102.out) hb)
  replace BK103 := Aside0.mk (blk_below (g := gb103) (tK BK103.out) hb)
  replace HB := Aside0.mk (below_step tG hb)
  (try clear hb)
  (try clear hb2)
  (try clear hk)
  (try clear hi)
  (try clear ho0)
  refine hK.out _ _ ⟨(blk_cell BK101.out 0).trans rfl, (blk_cell BK101.out 1).trans rfl, (blk_cell BK101.out 2).trans rfl, (blk_cell BK102.out 0).trans rfl, (blk_cell BK102.out 1).trans rfl, (blk_cell BK102.out 2).trans rfl⟩ (fun hHeld => ?_)
  clear hK K
  refine nm ?_
  refine pI 17 (some 5) (bm 18 20) HT_.out ?_
  refine pI 18 (some 6) (bm 19 20) HT_.out ?_
  refine pI 19 (some 7) (bm 20 20) HT_.out ?_
  refine done_ (done_of HT_.out (by kernel_rfl)) ?_
  have hnb34 := NB101_102.out
  have hnc34 := NB102_101.out
  have hnb35 := NB101_103.out
  have hnc35 := NB103_101.out
  have hcz36_0 : w33.cell? ⟨gb101, 0, none⟩ = some (.bool a0_0) := (blk_cell BK101.out 0).trans rfl
  have hcz36_1 : w33.cell? ⟨gb101, 1, none⟩ = some (.slice A0_1 l0_1.length c0_1) := (blk_cell BK101.out 1).trans rfl
  have hcz36_2 : w33.cell? ⟨gb101, 2, none⟩ = some (.slice A0_2 l0_2.length c0_2) := (blk_cell BK101.out 2).trans rfl
  have hfz36_0 := blk_frozen BK101.out 0
  have hfz36_1 := blk_frozen BK101.out 1
  have hfz36_2 := blk_frozen BK101.out 2
  have hnb37 := NB102_103.out
  have hnc37 := NB103_102.out
  have hcz38_0 : w33.cell? ⟨gb102, 0, none⟩ = some (.bool a1_0) := (blk_cell BK102.out 0).trans rfl
  have hcz38_1 : w33.cell? ⟨gb102, 1, none⟩ = some (.slice A1_1 l1_1.length c1_1) := (blk_cell BK102.out 1).trans rfl
  have hcz38_2 : w33.cell? ⟨gb102, 2, none⟩ = some (.slice A1_2 l1_2.length c1_2) := (blk_cell BK102.out 2).trans rfl
  have hfz38_0 := blk_frozen BK102.out 0
  have hfz38_1 := blk_frozen BK102.out 1
  have hfz38_2 := blk_frozen BK102.out 2
  try go_wp2
  replace HO106 := Aside0.mk (Kd.V_drew HO106.out)
  replace HO109 := Aside0.mk (Kd.V_drew HO109.out)
  replace HO112 := Aside0.mk (Kd.V_drew HO112.out)
  replace HO115 := Aside0.mk (Kd.V_drew HO115.out)
  replace HO118 := Aside0.mk (Kd.V_drew HO118.out)
  replace HO121 := Aside0.mk (Kd.V_drew HO121.out)
  replace HO124 := Aside0.mk (Kd.V_drew HO124.out)
  replace HO127 := Aside0.mk (Kd.V_drew HO127.out)
  replace HO130 := Aside0.mk (Kd.V_drew HO130.out)
  replace BK101 := Aside0.mk (blk_drew BK101.out)
  replace BK102 := Aside0.mk (blk_drew BK102.out)
  replace BK103 := Aside0.mk (blk_drew BK103.out)
  replace HB := Aside0.mk (below_drew1 HB.out)
  obtain ⟨Ao40, co40, eo40⟩ := Kd.V_slice HO112.out
  (first | subst eo40 | (injection eo40 with f1_ f2_ f3_; have f4_ := f1_.symm; have f5_ := f3_.symm; clear f1_ f2_ f3_; subst f4_; subst f5_))
  obtain ⟨Ao41, co41, eo41⟩ := Kd.V_slice HO121.out
  (first | subst eo41 | (injection eo41 with f1_ f2_ f3_; have f4_ := f1_.symm; have f5_ := f3_.symm; clear f1_ f2_ f3_; subst f4_; subst f5_))
  refine start_ (n := 8) (S := fun w' => w'.cell? ⟨gb101, 0, none⟩ = some (.bool a0_0) ∧ w'.cell? ⟨gb101, 1, none⟩ = some (.slice A0_1 l0_1.length c0_1) ∧ w'.cell? ⟨gb101, 2, none⟩ = some (.slice A0_2 l0_2.length c0_2)) (ds := []) (bm 0 8) (by kernel_rfl) rfl rfl ⟨(blk_cell BK101.out 0).trans rfl, (blk_cell BK101.out 1).trans rfl, (blk_cell BK101.out 2).trans rfl⟩ (fun hHeld => ?_); refine with_tabW earshotref01_Add.tab3 earshotref01_Add.bits3 (fun HT_ HW_ => ?_)
  generalize w33.drew = w39 at HO106 HO109 HO112 HO115 HO118 HO121 HO124 HO127 HO130 BK101 BK102 BK103 HB hHeld ⊢
  refine pI 0 (some 30) (bm 1 8) HT_.out ?_
  refine pI 2 (some 32) (bq 5 8) HT_.out ?_
  refine pI 3 (some 33) (bq 13 8) HT_.out ?_
  refine pI 5 (some 35) (bq 45 8) HT_.out ?_
  refine tk3 1 (some 31) (bq 47 8) HT_.out HW_.out hHeld ?_
  refine one_ (i := 4) (N := some 34) (bm 6 8) rfl rfl (one_of HT_.out (by kernel_rfl)) (by decide) (fun K hK => ?_)
  refine goes_ Tryd.func170 (by kernel_rfl) rfl #[.slice Ao40 t110.length co40, .slice Ao41 t119.length co41] (by rfl) rfl rfl tL ?_
  with_reducible refine (earshotref01_plus.calls k _ _ t110 _ _ t119 t131 _ ?side1 ?side2 ?side3 ?side4 A13.out).mono ?_
  (case side1 => exact tC (Kd.V_reads' HO112.out).2.2)
  (case side2 => exact (Kd.V_reads' HO112.out).2.1)
  (case side3 => exact tC (Kd.V_reads' HO121.out).2.2)
  (case side4 => exact (Kd.V_reads' HO121.out).2.1)
  rintro e w42 ⟨v132, rfl, ho0, hb⟩
  refine ⟨_, rfl, ?_⟩
  replace HO106 := Aside0.mk (Kd.V_below (tV HO106.out) hb)
  replace HO109 := Aside0.mk (Kd.V_below (tV HO109.out) hb)
  replace HO112 := Aside0.mk (Kd.V_below (tV HO112.out) hb)
  replace HO115 := Aside0.mk (Kd.V_below (tV HO115.out) hb)
  replace HO118 := Aside0.mk (Kd.V_below (tV HO118.out) hb)
  replace HO121 := Aside0.mk (Kd.V_below (tV HO121.out) hb)
  replace HO124 := Aside0.mk (Kd.V_below (tV HO124.out) hb)
  replace HO127 := Aside0.mk (Kd.V_below (tV HO127.out) hb)
  replace HO130 := Aside0.mk (Kd.V_below (tV HO130.out) hb)
  have HO133 := Aside0.mk (Kd.V_lower (Kd.V_mono (ok' := fun k_ => k_ ≠ gb101 ∧ k_ ≠ gb102 ∧ k_ ≠ gb103) ho0 (fun k_ hk_ => ⟨(Kd.freshB (g := gb101) (tK BK101.out) k_ hk_), (Kd.freshB (g := gb102) (tK BK102.out) k_ hk_), (Kd.freshB (g := gb103) (tK BK103.out) k_ hk_)⟩)) (below_size tG))
  replace BK101 := Aside0.mk (blk_below (g := gb101) (tK BK101.out) hb)
  replace BK102 := Aside0.mk (blk_below (g := gb102) (tK BK102.out) hb)
  replace BK103 := Aside0.mk (blk_below (g := gb103) (tK BK103.out) hb)
  replace HB := Aside0.mk (below_step tG hb)
  (try clear hb)
  (try clear hb2)
  (try clear hk)
  (try clear hi)
  (try clear ho0)
  obtain ⟨Ao43, co43, eo43⟩ := Kd.V_slice HO133.out
  (first | subst eo43 | (injection eo43 with f1_ f2_ f3_; have f4_ := f1_.symm; have f5_ := f3_.symm; clear f1_ f2_ f3_; subst f4_; subst f5_))
  obtain ⟨Ao44, co44, eo44⟩ := Kd.V_slice HO130.out
  (first | subst eo44 | (injection eo44 with f1_ f2_ f3_; have f4_ := f1_.symm; have f5_ := f3_.symm; clear f1_ f2_ f3_; subst f4_; subst f5_))
  refine hK.out _ _ ⟨(blk_cell BK101.out 0).trans rfl, (blk_cell BK101.out 1).trans rfl, (blk_cell BK101.out 2).trans rfl⟩ (fun hHeld => ?_)
  clear hK K
  refine nm ?_
  refine one_ (i := 6) (N := some 36) (bm 7 8) rfl rfl (one_of HT_.out (by kernel_rfl)) (by decide) (fun K hK => ?_)
  refine goes_ Tryd.func129 (by kernel_rfl) rfl #[.bool a0_0, .slice Ao43 t131.length co43, .slice Ao44 t128.length co44] (by rfl) rfl rfl tL ?_
  with_reducible refine (earshotref01_make1.calls k a0_0 _ _ t131 _ _ t128 t134 t135 t138 _ ?side1 ?side2 ?side3 ?side4 A14.out).mono ?_
  (case side1 => exact tC (Kd.V_reads' HO133.out).2.2)
  (case side2 => exact (Kd.V_reads' HO133.out).2.1)
  (case side3 => exact tC (Kd.V_reads' HO130.out).2.2)
  (case side4 => exact (Kd.V_reads' HO130.out).2.1)
  rintro e w45 ⟨v136, v139, rfl, ho0, ho1, hb⟩
  refine ⟨_, rfl, ?_⟩
  replace HO106 := Aside0.mk (Kd.V_mono (Kd.V_told (Kd.V_told (Kd.V_old (tV HO106.out) hb) (Kd.R_base ho0)) (Kd.R_base ho1)) (fun _ h_ => h_.1))
  replace HO109 := Aside0.mk (Kd.V_mono (Kd.V_told (Kd.V_told (Kd.V_old (tV HO109.out) hb) (Kd.R_base ho0)) (Kd.R_base ho1)) (fun _ h_ => h_.1))
  replace HO112 := Aside0.mk (Kd.V_mono (Kd.V_told (Kd.V_told (Kd.V_old (tV HO112.out) hb) (Kd.R_base ho0)) (Kd.R_base ho1)) (fun _ h_ => h_.1))
  replace HO115 := Aside0.mk (Kd.V_mono (Kd.V_told (Kd.V_told (Kd.V_old (tV HO115.out) hb) (Kd.R_base ho0)) (Kd.R_base ho1)) (fun _ h_ => h_.1))
  replace HO118 := Aside0.mk (Kd.V_mono (Kd.V_told (Kd.V_told (Kd.V_old (tV HO118.out) hb) (Kd.R_base ho0)) (Kd.R_base ho1)) (fun _ h_ => h_.1))
  replace HO121 := Aside0.mk (Kd.V_mono (Kd.V_told (Kd.V_told (Kd.V_old (tV HO121.out) hb) (Kd.R_base ho0)) (Kd.R_base ho1)) (fun _ h_ => h_.1))
  replace HO124 := Aside0.mk (Kd.V_mono (Kd.V_told (Kd.V_told (Kd.V_old (tV HO124.out) hb) (Kd.R_base ho0)) (Kd.R_base ho1)) (fun _ h_ => h_.1))
  replace HO127 := Aside0.mk (Kd.V_mono (Kd.V_told (Kd.V_told (Kd.V_old (tV HO127.out) hb) (Kd.R_base ho0)) (Kd.R_base ho1)) (fun _ h_ => h_.1))
  replace HO130 := Aside0.mk (Kd.V_mono (Kd.V_told (Kd.V_told (Kd.V_old (tV HO130.out) hb) (Kd.R_base ho0)) (Kd.R_base ho1)) (fun _ h_ => h_.1))
  replace HO133 := Aside0.mk (Kd.V_mono (Kd.V_told (Kd.V_told (Kd.V_old (tV HO133.out) hb) (Kd.R_base ho0)) (Kd.R_base ho1)) (fun _ h_ => h_.1))
  have HO137 := Aside0.mk (Kd.R_lower ho0 (below_size tG))
  have HO140 := Aside0.mk (Kd.R_lower ho1 (below_size tG))
  replace BK101 := Aside0.mk (blk_below (g := gb101) (tK BK101.out) hb)
  replace BK102 := Aside0.mk (blk_below (g := gb102) (tK BK102.out) hb)
  replace BK103 := Aside0.mk (blk_below (g := gb103) (tK BK103.out) hb)
  replace HB := Aside0.mk (below_step tG hb)
  (try clear hb)
  (try clear hb2)
  (try clear hk)
  (try clear hi)
  (try clear ho0)
  (try clear ho1)
  obtain ⟨Ao47, co47, eo47⟩ := Kd.R_slice HO137.out
  (first | subst eo47 | (injection eo47 with f1_ f2_ f3_; have f4_ := f1_.symm; have f5_ := f3_.symm; clear f1_ f2_ f3_; subst f4_; subst f5_))
  obtain ⟨Ao49, co49, eo49⟩ := Kd.R_slice HO140.out
  (first | subst eo49 | (injection eo49 with f1_ f2_ f3_; have f4_ := f1_.symm; have f5_ := f3_.symm; clear f1_ f2_ f3_; subst f4_; subst f5_))
  refine hK.out _ _ ⟨(blk_cell BK101.out 0).trans rfl, (blk_cell BK101.out 1).trans rfl, (blk_cell BK101.out 2).trans rfl⟩ (fun hHeld => ?_)
  clear hK K
  refine nm ?_
  refine one_ (i := 7) (N := none) (bm 8 8) rfl rfl (one_of HT_.out (by kernel_rfl)) (by decide) (fun K hK => ?_)
  have hs46 : w45.cell? ⟨gb103, 0, none⟩ = some (.bool false) := (blk_cell BK103.out 0).trans rfl
  have hfs46 := blk_frozen BK103.out 0
  have hns46_0 := NB101_103.out
  have hns46_1 := NB102_103.out
  have hms46_0 := NB103_101.out
  have hms46_1 := NB103_102.out
  have hs48 : w45.cell? ⟨gb103, 1, none⟩ = some (.slice none 0 0) := (blk_cell BK103.out 1).trans rfl
  have hfs48 := blk_frozen BK103.out 1
  have hns48_0 := NB101_103.out
  have hns48_1 := NB102_103.out
  have hms48_0 := NB103_101.out
  have hms48_1 := NB103_102.out
  have hs50 : w45.cell? ⟨gb103, 2, none⟩ = some (.slice none 0 0) := (blk_cell BK103.out 2).trans rfl
  have hfs50 := blk_frozen BK103.out 2
  have hns50_0 := NB101_103.out
  have hns50_1 := NB102_103.out
  have hms50_0 := NB103_101.out
  have hms50_1 := NB103_102.out
  refine skip_ (w1 := ?_) (by rfl) rfl ?_ ?_
  rotate_left
  ·go_simp
   rfl
  refine hK.out _ _ ⟨((cell_far (p := ⟨gb103, _, none⟩) NB101_103.out _).trans (((cell_far (p := ⟨gb103, _, none⟩) NB101_103.out _).trans (((cell_far (p := ⟨gb103, _, none⟩) NB101_103.out _).trans (hHeld.1)))))), ((cell_far (p := ⟨gb103, _, none⟩) NB101_103.out _).trans (((cell_far (p := ⟨gb103, _, none⟩) NB101_103.out _).trans (((cell_far (p := ⟨gb103, _, none⟩) NB101_103.out _).trans (hHeld.2.1)))))), ((cell_far (p := ⟨gb103, _, none⟩) NB101_103.out _).trans (((cell_far (p := ⟨gb103, _, none⟩) NB101_103.out _).trans (((cell_far (p := ⟨gb103, _, none⟩) NB101_103.out _).trans (hHeld.2.2))))))⟩ (fun hHeld => ?_)
  clear hK K
  refine done_ (done_of HT_.out (by kernel_rfl)) ?_
  try go_wp2
  refine bodyPost_ret (results_cell_row rfl _ _ gb103 103 #[.bool t134, .slice Ao47 t135.length co47, .slice Ao49 t138.length co49] (0, 0) _ rfl (by (with_reducible repeat (first | refine blk_drewN ?_ _ | refine blk_drew ?_ | refine blk_alloc ?_ _)); refine blk_put (cs := #[.bool t134, .slice Ao47 t135.length co47, .slice none 0 0]) ?_ 2 _ rfl; (with_reducible repeat (first | refine blk_drewN ?_ _ | refine blk_drew ?_ | refine blk_alloc ?_ _)); refine blk_put (cs := #[.bool t134, .slice none 0 0, .slice none 0 0]) ?_ 1 _ rfl; (with_reducible repeat (first | refine blk_drewN ?_ _ | refine blk_drew ?_ | refine blk_alloc ?_ _)); refine blk_put (cs := #[.bool false, .slice none 0 0, .slice none 0 0]) ?_ 0 _ rfl; exact tK BK103.out) Tryd.underlying103 rfl (by kernel_rfl)) rfl ?_
  exact ⟨_, _, by first | rfl | (simp [errW_none, errW_some] <;> rfl) | (simp [*, errW_none, errW_some] <;> rfl), by (with_reducible repeat (first | apply Kd.R_alloc | apply Kd.R_drewN | apply Kd.R_drew)); exact Kd.R_mono (Kd.R_far (p := ⟨gb103, 2, none⟩) (Kd.R_far (p := ⟨gb103, 1, none⟩) (Kd.R_far (p := ⟨gb103, 0, none⟩) (Kd.R_types HO137.out BK103.out (by decide)) (fun _ hk => hk.2) (.bool t134)) (fun _ hk => hk.2) (.slice Ao47 t135.length co47)) (fun _ hk => hk.2) (.slice Ao49 t138.length co49)) (fun _ hk => hk.1), by (with_reducible repeat (first | apply Kd.R_alloc | apply Kd.R_drewN | apply Kd.R_drew)); exact Kd.R_mono (Kd.R_far (p := ⟨gb103, 2, none⟩) (Kd.R_far (p := ⟨gb103, 1, none⟩) (Kd.R_far (p := ⟨gb103, 0, none⟩) (Kd.R_types HO140.out BK103.out (by decide)) (fun _ hk => hk.2) (.bool t134)) (fun _ hk => hk.2) (.slice Ao47 t135.length co47)) (fun _ hk => hk.2) (.slice Ao49 t138.length co49)) (fun _ hk => hk.1), tG⟩
 ·rw [if_neg c12] at H
  have c12b0 : (a0_0 == a1_0) = false := by simpa using c12
  (try (have c12b1 : decide (a0_0 = a1_0) = false := by simpa using c12))
  (try (have c12b2 : (a0_0 == a1_0) = false := by simpa using c12))
  (try (have c12b3 : ¬ (a0_0 = a1_0) := by simpa using c12))
  clear c12
  replace H := Option.bind_eq_some_iff.mp H
  obtain ⟨t141, A510, H⟩ := H
  try dsimp only at H
  have A51 := Aside0.mk A510
  clear A510
  by_cases c52 : t141 ≥ 0
  ·rw [if_pos c52] at H
   have c52b0 : decide (0 ≤ t141) = true := decide_eq_true c52
   clear c52
   replace H := Option.bind_eq_some_iff.mp H
   obtain ⟨t142, A530, H⟩ := H
   try dsimp only at H
   have A53 := Aside0.mk A530
   clear A530
   replace H := Option.bind_eq_some_iff.mp H
   obtain ⟨⟨t145, t146, t149⟩, A540, H⟩ := H
   try dsimp only at H
   have A54 := Aside0.mk A540
   clear A540
   simp only [Option.some.injEq, Prod.mk.injEq] at H
   obtain ⟨rfl, rfl, rfl⟩ := H
   go_enter Tryd.func156, Tryd.ntmps156
   try go_wp2_with (first | ((with_reducible refine gate_dst (N := 2) rfl ?_); refine box_event ?hg (N := 2) ?hd (cs := #[.bool a0_0, .slice A0_1 l0_1.length c0_1, .slice A0_2 l0_2.length c0_2]) (t := 103) ?hr ?_; (case hd => rfl); (case hg => rfl); (case hr => first | (go_simp; done) | (go_simp; rfl)); intro gb101 hg w55 hbox hb; have BK101 := Aside0.mk (hbox); have GW101 := Aside0.mk ((by rw [hg]; exact (below_size tB) : w.heap.size ≤ gb101)); have GE101 := Aside0.mk ((by rw [hg]; exact (below_size tB) : w.heap.size ≤ gb101)); replace HB := Aside0.mk (below_step tB hb); clear hb hbox hg) | ((with_reducible refine gate_dst (N := 3) rfl ?_); refine box_event ?hg (N := 3) ?hd (cs := #[.bool a1_0, .slice A1_1 l1_1.length c1_1, .slice A1_2 l1_2.length c1_2]) (t := 103) ?hr ?_; (case hd => rfl); (case hg => rfl); (case hr => first | (go_simp; done) | (go_simp; rfl)); intro gb102 hg w56 hbox hb; have BK102 := Aside0.mk (hbox); have GW102 := Aside0.mk ((by rw [hg]; exact (below_size tG) : w.heap.size ≤ gb102)); have GE102 := Aside0.mk ((by rw [hg]; exact (below_size tG) : w.heap.size ≤ gb102)); replace HB := Aside0.mk (below_step tG hb); have NB101_102 := Aside0.mk ((by rw [hg]; exact Nat.ne_of_lt (blk_lt (g := gb101) (tK BK101.out)) : gb101 ≠ gb102)); have NB102_101 := Aside0.mk ((by rw [hg]; exact Nat.ne_of_gt (blk_lt (g := gb101) (tK BK101.out)) : gb102 ≠ gb101)); replace BK101 := Aside0.mk (blk_below (g := gb101) (tK BK101.out) hb); clear hb hbox hg) | ((with_reducible refine gate_dst (N := 4) rfl ?_); refine box_event ?hg (N := 4) ?hd (cs := #[.bool false, .slice none 0 0, .slice none 0 0]) (t := 103) ?hr ?_; (case hd => rfl); (case hg => rfl); (case hr => first | (go_simp; done) | (go_simp; rfl)); intro gb103 hg w57 hbox hb; have BK103 := Aside0.mk (hbox); have GW103 := Aside0.mk ((by rw [hg]; exact (below_size tG) : w.heap.size ≤ gb103)); have GE103 := Aside0.mk ((by rw [hg]; exact (below_size tG) : w.heap.size ≤ gb103)); replace HB := Aside0.mk (below_step tG hb); have NB101_103 := Aside0.mk ((by rw [hg]; exact Nat.ne_of_lt (blk_lt (g := gb101) (tK BK101.out)) : gb101 ≠ gb103)); have NB103_101 := Aside0.mk ((by rw [hg]; exact Nat.ne_of_gt (blk_lt (g := gb101) (tK BK101.out)) : gb103 ≠ gb101)); replace BK101 := Aside0.mk (blk_below (g := gb101) (tK BK101.out) hb); have NB102_103 := Aside0.mk ((by rw [hg]; exact Nat.ne_of_lt (blk_lt (g := gb102) (tK BK102.out)) : gb102 ≠ gb103)); have NB103_102 := Aside0.mk ((by rw [hg]; exact Nat.ne_of_gt (blk_lt (g := gb102) (tK BK102.out)) : gb103 ≠ gb102)); replace BK102 := Aside0.mk (blk_below (g := gb102) (tK BK102.out) hb); clear hb hbox hg))
   replace BK101 := Aside0.mk (blk_drew BK101.out)
   replace BK102 := Aside0.mk (blk_drew BK102.out)
   replace BK103 := Aside0.mk (blk_drew BK103.out)
   replace HB := Aside0.mk (below_drew1 HB.out)
   refine start_ (n := 20) (S := fun w' => w'.cell? ⟨gb101, 0, none⟩ = some (.bool a0_0) ∧ w'.cell? ⟨gb101, 1, none⟩ = some (.slice A0_1 l0_1.length c0_1) ∧ w'.cell? ⟨gb101, 2, none⟩ = some (.slice A0_2 l0_2.length c0_2) ∧ w'.cell? ⟨gb102, 0, none⟩ = some (.bool a1_0) ∧ w'.cell? ⟨gb102, 1, none⟩ = some (.slice A1_1 l1_1.length c1_1) ∧ w'.cell? ⟨gb102, 2, none⟩ = some (.slice A1_2 l1_2.length c1_2)) (ds := []) (bm 0 20) (by kernel_rfl) rfl rfl ⟨(blk_cell BK101.out 0).trans rfl, (blk_cell BK101.out 1).trans rfl, (blk_cell BK101.out 2).trans rfl, (blk_cell BK102.out 0).trans rfl, (blk_cell BK102.out 1).trans rfl, (blk_cell BK102.out 2).trans rfl⟩ (fun hHeld => ?_); refine with_tabW earshotref01_Add.tab1 earshotref01_Add.bits1 (fun HT_ HW_ => ?_)
   generalize w57.drew = w58 at BK101 BK102 BK103 HB hHeld ⊢
   refine pI 0 (some 8) (bm 1 20) HT_.out ?_
   refine pI 6 (some 14) (bq 65 20) HT_.out ?_
   refine tk6 1 (some 9) (bq 67 20) HT_.out HW_.out hHeld ?_
   refine tk6 3 (some 11) (bq 75 20) HT_.out HW_.out hHeld ?_
   refine tk6 7 (some 15) (bq 203 20) HT_.out HW_.out hHeld ?_
   refine tk6 9 (some 17) (bq 715 20) HT_.out HW_.out hHeld ?_
   refine tk6 12 (some 20) (bq 4811 20) HT_.out HW_.out hHeld ?_
   refine tk6 14 (some 22) (bq 21195 20) HT_.out HW_.out hHeld ?_
   refine one_ (i := 2) (N := some 10) (bq 21199 20) rfl rfl (one_of HT_.out (by kernel_rfl)) (by decide) (fun K hK => ?_)
   refine goes_ Tryd.func133 (by kernel_rfl) rfl #[.slice A0_1 l0_1.length c0_1] (by rfl) rfl rfl tL ?_
   with_reducible refine (earshotref01_trim.calls k (fun k_ => k_ < w.heap.size) _ _ l0_1 t104 _ ?side1 A3.out).mono ?_
   (case side1 => exact Kd.V_mk HC0_1.out (Kd.F_below (Kd.C_F (Kd.heap_int .u32) HR0_1.out) tG))
   rintro e w59 ⟨v105, rfl, ho0, hb⟩
   refine ⟨_, rfl, ?_⟩
   have HO106 := Aside0.mk (Kd.V_lower (Kd.V_mono (ok' := fun k_ => k_ ≠ gb101 ∧ k_ ≠ gb102 ∧ k_ ≠ gb103) ho0 (fun k_ hk_ => ⟨Or.elim hk_ (fun hs_ => fun e_ => Nat.not_le.2 hs_ (by rw [e_]; exact GW101.out)) (fun hn_ => (Kd.freshB (g := gb101) (tK BK101.out) k_ hn_)), Or.elim hk_ (fun hs_ => fun e_ => Nat.not_le.2 hs_ (by rw [e_]; exact GW102.out)) (fun hn_ => (Kd.freshB (g := gb102) (tK BK102.out) k_ hn_)), Or.elim hk_ (fun hs_ => fun e_ => Nat.not_le.2 hs_ (by rw [e_]; exact GW103.out)) (fun hn_ => (Kd.freshB (g := gb103) (tK BK103.out) k_ hn_))⟩)) (below_size tG))
   replace BK101 := Aside0.mk (blk_below (g := gb101) (tK BK101.out) hb)
   replace BK102 := Aside0.mk (blk_below (g := gb102) (tK BK102.out) hb)
   replace BK103 := Aside0.mk (blk_below (g := gb103) (tK BK103.out) hb)
   replace HB := Aside0.mk (below_step tG hb)
   (try clear hb)
   (try clear hb2)
   (try clear hk)
   (try clear hi)
   (try clear ho0)
   refine hK.out _ _ ⟨(blk_cell BK101.out 0).trans rfl, (blk_cell BK101.out 1).trans rfl, (blk_cell BK101.out 2).trans rfl, (blk_cell BK102.out 0).trans rfl, (blk_cell BK102.out 1).trans rfl, (blk_cell BK102.out 2).trans rfl⟩ (fun hHeld => ?_)
   clear hK K
   refine nm ?_
   refine one_ (i := 4) (N := some 12) (bq 21215 20) rfl rfl (one_of HT_.out (by kernel_rfl)) (by decide) (fun K hK => ?_)
   refine goes_ Tryd.func134 (by kernel_rfl) rfl #[.agg #[.bool a1_0, .slice A1_1 l1_1.length c1_1, .slice A1_2 l1_2.length c1_2]] (by rfl) rfl rfl tL ?_
   with_reducible refine (earshotref01_low.calls k a1_0 _ _ l1_1 (fun k_ => k_ < w.heap.size) _ _ l1_2 t107 _ ?side1 ?side2 ?side3 A4.out).mono ?_
   (case side1 => exact tC (Kd.C_below HR1_1.out HB.out))
   (case side2 => exact HC1_1.out)
   (case side3 => exact Kd.V_mk HC1_2.out (Kd.F_below (Kd.C_F (Kd.heap_int .u32) HR1_2.out) tG))
   rintro e w60 ⟨v108, rfl, ho0, hb⟩
   refine ⟨_, rfl, ?_⟩
   replace HO106 := Aside0.mk (Kd.V_below (tV HO106.out) hb)
   have HO109 := Aside0.mk (Kd.V_lower (Kd.V_mono (ok' := fun k_ => k_ ≠ gb101 ∧ k_ ≠ gb102 ∧ k_ ≠ gb103) ho0 (fun k_ hk_ => ⟨Or.elim hk_ (fun hs_ => fun e_ => Nat.not_le.2 hs_ (by rw [e_]; exact GW101.out)) (fun hn_ => (Kd.freshB (g := gb101) (tK BK101.out) k_ hn_)), Or.elim hk_ (fun hs_ => fun e_ => Nat.not_le.2 hs_ (by rw [e_]; exact GW102.out)) (fun hn_ => (Kd.freshB (g := gb102) (tK BK102.out) k_ hn_)), Or.elim hk_ (fun hs_ => fun e_ => Nat.not_le.2 hs_ (by rw [e_]; exact GW103.out)) (fun hn_ => (Kd.freshB (g := gb103) (tK BK103.out) k_ hn_))⟩)) (below_size tG))
   replace BK101 := Aside0.mk (blk_below (g := gb101) (tK BK101.out) hb)
   replace BK102 := Aside0.mk (blk_below (g := gb102) (tK BK102.out) hb)
   replace BK103 := Aside0.mk (blk_below (g := gb103) (tK BK103.out) hb)
   replace HB := Aside0.mk (below_step tG hb)
   (try clear hb)
   (try clear hb2)
   (try clear hk)
   (try clear hi)
   (try clear ho0)
   obtain ⟨Ao61, co61, eo61⟩ := Kd.V_slice HO106.out
   (first | subst eo61 | (injection eo61 with f1_ f2_ f3_; have f4_ := f1_.symm; have f5_ := f3_.symm; clear f1_ f2_ f3_; subst f4_; subst f5_))
   obtain ⟨Ao62, co62, eo62⟩ := Kd.V_slice HO109.out
   (first | subst eo62 | (injection eo62 with f1_ f2_ f3_; have f4_ := f1_.symm; have f5_ := f3_.symm; clear f1_ f2_ f3_; subst f4_; subst f5_))
   refine hK.out _ _ ⟨(blk_cell BK101.out 0).trans rfl, (blk_cell BK101.out 1).trans rfl, (blk_cell BK101.out 2).trans rfl, (blk_cell BK102.out 0).trans rfl, (blk_cell BK102.out 1).trans rfl, (blk_cell BK102.out 2).trans rfl⟩ (fun hHeld => ?_)
   clear hK K
   refine nm ?_
   refine one_ (i := 5) (N := some 13) (bq 21247 20) rfl rfl (one_of HT_.out (by kernel_rfl)) (by decide) (fun K hK => ?_)
   refine goes_ Tryd.func132 (by kernel_rfl) rfl #[.slice Ao61 t104.length co61, .slice Ao62 t107.length co62] (by rfl) rfl rfl tL ?_
   with_reducible refine (earshotref01_times.calls k _ _ t104 _ _ t107 t110 _ ?side1 ?side2 ?side3 ?side4 A5.out).mono ?_
   (case side1 => exact tC (Kd.V_reads' HO106.out).2.2)
   (case side2 => exact (Kd.V_reads' HO106.out).2.1)
   (case side3 => exact tC (Kd.V_reads' HO109.out).2.2)
   (case side4 => exact (Kd.V_reads' HO109.out).2.1)
   rintro e w63 ⟨v111, rfl, ho0, hb⟩
   refine ⟨_, rfl, ?_⟩
   replace HO106 := Aside0.mk (Kd.V_below (tV HO106.out) hb)
   replace HO109 := Aside0.mk (Kd.V_below (tV HO109.out) hb)
   have HO112 := Aside0.mk (Kd.V_lower (Kd.V_mono (ok' := fun k_ => k_ ≠ gb101 ∧ k_ ≠ gb102 ∧ k_ ≠ gb103) ho0 (fun k_ hk_ => ⟨(Kd.freshB (g := gb101) (tK BK101.out) k_ hk_), (Kd.freshB (g := gb102) (tK BK102.out) k_ hk_), (Kd.freshB (g := gb103) (tK BK103.out) k_ hk_)⟩)) (below_size tG))
   replace BK101 := Aside0.mk (blk_below (g := gb101) (tK BK101.out) hb)
   replace BK102 := Aside0.mk (blk_below (g := gb102) (tK BK102.out) hb)
   replace BK103 := Aside0.mk (blk_below (g := gb103) (tK BK103.out) hb)
   replace HB := Aside0.mk (below_step tG hb)
   (try clear hb)
   (try clear hb2)
   (try clear hk)
   (try clear hi)
   (try clear ho0)
   refine hK.out _ _ ⟨(blk_cell BK101.out 0).trans rfl, (blk_cell BK101.out 1).trans rfl, (blk_cell BK101.out 2).trans rfl, (blk_cell BK102.out 0).trans rfl, (blk_cell BK102.out 1).trans rfl, (blk_cell BK102.out 2).trans rfl⟩ (fun hHeld => ?_)
   clear hK K
   refine nm ?_
   refine one_ (i := 8) (N := some 16) (bq 21503 20) rfl rfl (one_of HT_.out (by kernel_rfl)) (by decide) (fun K hK => ?_)
   refine goes_ Tryd.func133 (by kernel_rfl) rfl #[.slice A1_1 l1_1.length c1_1] (by rfl) rfl rfl tL ?_
   with_reducible refine (earshotref01_trim.calls k (fun k_ => k_ < w.heap.size) _ _ l1_1 t113 _ ?side1 A6.out).mono ?_
   (case side1 => exact Kd.V_mk HC1_1.out (Kd.F_below (Kd.C_F (Kd.heap_int .u32) HR1_1.out) tG))
   rintro e w64 ⟨v114, rfl, ho0, hb⟩
   refine ⟨_, rfl, ?_⟩
   replace HO106 := Aside0.mk (Kd.V_below (tV HO106.out) hb)
   replace HO109 := Aside0.mk (Kd.V_below (tV HO109.out) hb)
   replace HO112 := Aside0.mk (Kd.V_below (tV HO112.out) hb)
   have HO115 := Aside0.mk (Kd.V_lower (Kd.V_mono (ok' := fun k_ => k_ ≠ gb101 ∧ k_ ≠ gb102 ∧ k_ ≠ gb103) ho0 (fun k_ hk_ => ⟨Or.elim hk_ (fun hs_ => fun e_ => Nat.not_le.2 hs_ (by rw [e_]; exact GW101.out)) (fun hn_ => (Kd.freshB (g := gb101) (tK BK101.out) k_ hn_)), Or.elim hk_ (fun hs_ => fun e_ => Nat.not_le.2 hs_ (by rw [e_]; exact GW102.out)) (fun hn_ => (Kd.freshB (g := gb102) (tK BK102.out) k_ hn_)), Or.elim hk_ (fun hs_ => fun e_ => Nat.not_le.2 hs_ (by rw [e_]; exact GW103.out)) (fun hn_ => (Kd.freshB (g := gb103) (tK BK103.out) k_ hn_))⟩)) (below_size tG))
   replace BK101 := Aside0.mk (blk_below (g := gb101) (tK BK101.out) hb)
   replace BK102 := Aside0.mk (blk_below (g := gb102) (tK BK102.out) hb)
   replace BK103 := Aside0.mk (blk_below (g := gb103) (tK BK103.out) hb)
   replace HB := Aside0.mk (below_step tG hb)
   (try clear hb)
   (try clear hb2)
   (try clear hk)
   (try clear hi)
   (try clear ho0)
   refine hK.out _ _ ⟨(blk_cell BK101.out 0).trans rfl, (blk_cell BK101.out 1).trans rfl, (blk_cell BK101.out 2).trans rfl, (blk_cell BK102.out 0).trans rfl, (blk_cell BK102.out 1).trans rfl, (blk_cell BK102.out 2).trans rfl⟩ (fun hHeld => ?_)
   clear hK K
   refine nm ?_
   refine one_ (i := 10) (N := some 18) (bq 22527 20) rfl rfl (one_of HT_.out (by kernel_rfl)) (by decide) (fun K hK => ?_)
   refine goes_ Tryd.func134 (by kernel_rfl) rfl #[.agg #[.bool a0_0, .slice A0_1 l0_1.length c0_1, .slice A0_2 l0_2.length c0_2]] (by rfl) rfl rfl tL ?_
   with_reducible refine (earshotref01_low.calls k a0_0 _ _ l0_1 (fun k_ => k_ < w.heap.size) _ _ l0_2 t116 _ ?side1 ?side2 ?side3 A7.out).mono ?_
   (case side1 => exact tC (Kd.C_below HR0_1.out HB.out))
   (case side2 => exact HC0_1.out)
   (case side3 => exact Kd.V_mk HC0_2.out (Kd.F_below (Kd.C_F (Kd.heap_int .u32) HR0_2.out) tG))
   rintro e w65 ⟨v117, rfl, ho0, hb⟩
   refine ⟨_, rfl, ?_⟩
   replace HO106 := Aside0.mk (Kd.V_below (tV HO106.out) hb)
   replace HO109 := Aside0.mk (Kd.V_below (tV HO109.out) hb)
   replace HO112 := Aside0.mk (Kd.V_below (tV HO112.out) hb)
   replace HO115 := Aside0.mk (Kd.V_below (tV HO115.out) hb)
   have HO118 := Aside0.mk (Kd.V_lower (Kd.V_mono (ok' := fun k_ => k_ ≠ gb101 ∧ k_ ≠ gb102 ∧ k_ ≠ gb103) ho0 (fun k_ hk_ => ⟨Or.elim hk_ (fun hs_ => fun e_ => Nat.not_le.2 hs_ (by rw [e_]; exact GW101.out)) (fun hn_ => (Kd.freshB (g := gb101) (tK BK101.out) k_ hn_)), Or.elim hk_ (fun hs_ => fun e_ => Nat.not_le.2 hs_ (by rw [e_]; exact GW102.out)) (fun hn_ => (Kd.freshB (g := gb102) (tK BK102.out) k_ hn_)), Or.elim hk_ (fun hs_ => fun e_ => Nat.not_le.2 hs_ (by rw [e_]; exact GW103.out)) (fun hn_ => (Kd.freshB (g := gb103) (tK BK103.out) k_ hn_))⟩)) (below_size tG))
   replace BK101 := Aside0.mk (blk_below (g := gb101) (tK BK101.out) hb)
   replace BK102 := Aside0.mk (blk_below (g := gb102) (tK BK102.out) hb)
   replace BK103 := Aside0.mk (blk_below (g := gb103) (tK BK103.out) hb)
   replace HB := Aside0.mk (below_step tG hb)
   (try clear hb)
   (try clear hb2)
   (try clear hk)
   (try clear hi)
   (try clear ho0)
   obtain ⟨Ao66, co66, eo66⟩ := Kd.V_slice HO115.out
   (first | subst eo66 | (injection eo66 with f1_ f2_ f3_; have f4_ := f1_.symm; have f5_ := f3_.symm; clear f1_ f2_ f3_; subst f4_; subst f5_))
   obtain ⟨Ao67, co67, eo67⟩ := Kd.V_slice HO118.out
   (first | subst eo67 | (injection eo67 with f1_ f2_ f3_; have f4_ := f1_.symm; have f5_ := f3_.symm; clear f1_ f2_ f3_; subst f4_; subst f5_))
   refine hK.out _ _ ⟨(blk_cell BK101.out 0).trans rfl, (blk_cell BK101.out 1).trans rfl, (blk_cell BK101.out 2).trans rfl, (blk_cell BK102.out 0).trans rfl, (blk_cell BK102.out 1).trans rfl, (blk_cell BK102.out 2).trans rfl⟩ (fun hHeld => ?_)
   clear hK K
   refine nm ?_
   refine one_ (i := 11) (N := some 19) (bq 24575 20) rfl rfl (one_of HT_.out (by kernel_rfl)) (by decide) (fun K hK => ?_)
   refine goes_ Tryd.func132 (by kernel_rfl) rfl #[.slice Ao66 t113.length co66, .slice Ao67 t116.length co67] (by rfl) rfl rfl tL ?_
   with_reducible refine (earshotref01_times.calls k _ _ t113 _ _ t116 t119 _ ?side1 ?side2 ?side3 ?side4 A8.out).mono ?_
   (case side1 => exact tC (Kd.V_reads' HO115.out).2.2)
   (case side2 => exact (Kd.V_reads' HO115.out).2.1)
   (case side3 => exact tC (Kd.V_reads' HO118.out).2.2)
   (case side4 => exact (Kd.V_reads' HO118.out).2.1)
   rintro e w68 ⟨v120, rfl, ho0, hb⟩
   refine ⟨_, rfl, ?_⟩
   replace HO106 := Aside0.mk (Kd.V_below (tV HO106.out) hb)
   replace HO109 := Aside0.mk (Kd.V_below (tV HO109.out) hb)
   replace HO112 := Aside0.mk (Kd.V_below (tV HO112.out) hb)
   replace HO115 := Aside0.mk (Kd.V_below (tV HO115.out) hb)
   replace HO118 := Aside0.mk (Kd.V_below (tV HO118.out) hb)
   have HO121 := Aside0.mk (Kd.V_lower (Kd.V_mono (ok' := fun k_ => k_ ≠ gb101 ∧ k_ ≠ gb102 ∧ k_ ≠ gb103) ho0 (fun k_ hk_ => ⟨(Kd.freshB (g := gb101) (tK BK101.out) k_ hk_), (Kd.freshB (g := gb102) (tK BK102.out) k_ hk_), (Kd.freshB (g := gb103) (tK BK103.out) k_ hk_)⟩)) (below_size tG))
   replace BK101 := Aside0.mk (blk_below (g := gb101) (tK BK101.out) hb)
   replace BK102 := Aside0.mk (blk_below (g := gb102) (tK BK102.out) hb)
   replace BK103 := Aside0.mk (blk_below (g := gb103) (tK BK103.out) hb)
   replace HB := Aside0.mk (below_step tG hb)
   (try clear hb)
   (try clear hb2)
   (try clear hk)
   (try clear hi)
   (try clear ho0)
   refine hK.out _ _ ⟨(blk_cell BK101.out 0).trans rfl, (blk_cell BK101.out 1).trans rfl, (blk_cell BK101.out 2).trans rfl, (blk_cell BK102.out 0).trans rfl, (blk_cell BK102.out 1).trans rfl, (blk_cell BK102.out 2).trans rfl⟩ (fun hHeld => ?_)
   clear hK K
   refine nm ?_
   refine one_ (i := 13) (N := some 21) (bm 15 20) rfl rfl (one_of HT_.out (by kernel_rfl)) (by decide) (fun K hK => ?_)
   refine goes_ Tryd.func134 (by kernel_rfl) rfl #[.agg #[.bool a0_0, .slice A0_1 l0_1.length c0_1, .slice A0_2 l0_2.length c0_2]] (by rfl) rfl rfl tL ?_
   with_reducible refine (earshotref01_low.calls k a0_0 _ _ l0_1 (fun k_ => k_ < w.heap.size) _ _ l0_2 t122 _ ?side1 ?side2 ?side3 A9.out).mono ?_
   (case side1 => exact tC (Kd.C_below HR0_1.out HB.out))
   (case side2 => exact HC0_1.out)
   (case side3 => exact Kd.V_mk HC0_2.out (Kd.F_below (Kd.C_F (Kd.heap_int .u32) HR0_2.out) tG))
   rintro e w69 ⟨v123, rfl, ho0, hb⟩
   refine ⟨_, rfl, ?_⟩
   replace HO106 := Aside0.mk (Kd.V_below (tV HO106.out) hb)
   replace HO109 := Aside0.mk (Kd.V_below (tV HO109.out) hb)
   replace HO112 := Aside0.mk (Kd.V_below (tV HO112.out) hb)
   replace HO115 := Aside0.mk (Kd.V_below (tV HO115.out) hb)
   replace HO118 := Aside0.mk (Kd.V_below (tV HO118.out) hb)
   replace HO121 := Aside0.mk (Kd.V_below (tV HO121.out) hb)
   have HO124 := Aside0.mk (Kd.V_lower (Kd.V_mono (ok' := fun k_ => k_ ≠ gb101 ∧ k_ ≠ gb102 ∧ k_ ≠ gb103) ho0 (fun k_ hk_ => ⟨Or.elim hk_ (fun hs_ => fun e_ => Nat.not_le.2 hs_ (by rw [e_]; exact GW101.out)) (fun hn_ => (Kd.freshB (g := gb101) (tK BK101.out) k_ hn_)), Or.elim hk_ (fun hs_ => fun e_ => Nat.not_le.2 hs_ (by rw [e_]; exact GW102.out)) (fun hn_ => (Kd.freshB (g := gb102) (tK BK102.out) k_ hn_)), Or.elim hk_ (fun hs_ => fun e_ => Nat.not_le.2 hs_ (by rw [e_]; exact GW103.out)) (fun hn_ => (Kd.freshB (g := gb103) (tK BK103.out) k_ hn_))⟩)) (below_size tG))
   replace BK101 := Aside0.mk (blk_below (g := gb101) (tK BK101.out) hb)
   replace BK102 := Aside0.mk (blk_below (g := gb102) (tK BK102.out) hb)
   replace BK103 := Aside0.mk (blk_below (g := gb103) (tK BK103.out) hb)
   replace HB := Aside0.mk (below_step tG hb)
   (try clear hb)
   (try clear hb2)
   (try clear hk)
   (try clear hi)
   (try clear ho0)
   refine hK.out _ _ ⟨(blk_cell BK101.out 0).trans rfl, (blk_cell BK101.out 1).trans rfl, (blk_cell BK101.out 2).trans rfl, (blk_cell BK102.out 0).trans rfl, (blk_cell BK102.out 1).trans rfl, (blk_cell BK102.out 2).trans rfl⟩ (fun hHeld => ?_)
   clear hK K
   refine nm ?_
   refine one_ (i := 15) (N := some 23) (bm 16 20) rfl rfl (one_of HT_.out (by kernel_rfl)) (by decide) (fun K hK => ?_)
   refine goes_ Tryd.func134 (by kernel_rfl) rfl #[.agg #[.bool a1_0, .slice A1_1 l1_1.length c1_1, .slice A1_2 l1_2.length c1_2]] (by rfl) rfl rfl tL ?_
   with_reducible refine (earshotref01_low.calls k a1_0 _ _ l1_1 (fun k_ => k_ < w.heap.size) _ _ l1_2 t125 _ ?side1 ?side2 ?side3 A10.out).mono ?_
   (case side1 => exact tC (Kd.C_below HR1_1.out HB.out))
   (case side2 => exact HC1_1.out)
   (case side3 => exact Kd.V_mk HC1_2.out (Kd.F_below (Kd.C_F (Kd.heap_int .u32) HR1_2.out) tG))
   rintro e w70 ⟨v126, rfl, ho0, hb⟩
   refine ⟨_, rfl, ?_⟩
   replace HO106 := Aside0.mk (Kd.V_below (tV HO106.out) hb)
   replace HO109 := Aside0.mk (Kd.V_below (tV HO109.out) hb)
   replace HO112 := Aside0.mk (Kd.V_below (tV HO112.out) hb)
   replace HO115 := Aside0.mk (Kd.V_below (tV HO115.out) hb)
   replace HO118 := Aside0.mk (Kd.V_below (tV HO118.out) hb)
   replace HO121 := Aside0.mk (Kd.V_below (tV HO121.out) hb)
   replace HO124 := Aside0.mk (Kd.V_below (tV HO124.out) hb)
   have HO127 := Aside0.mk (Kd.V_lower (Kd.V_mono (ok' := fun k_ => k_ ≠ gb101 ∧ k_ ≠ gb102 ∧ k_ ≠ gb103) ho0 (fun k_ hk_ => ⟨Or.elim hk_ (fun hs_ => fun e_ => Nat.not_le.2 hs_ (by rw [e_]; exact GW101.out)) (fun hn_ => (Kd.freshB (g := gb101) (tK BK101.out) k_ hn_)), Or.elim hk_ (fun hs_ => fun e_ => Nat.not_le.2 hs_ (by rw [e_]; exact GW102.out)) (fun hn_ => (Kd.freshB (g := gb102) (tK BK102.out) k_ hn_)), Or.elim hk_ (fun hs_ => fun e_ => Nat.not_le.2 hs_ (by rw [e_]; exact GW103.out)) (fun hn_ => (Kd.freshB (g := gb103) (tK BK103.out) k_ hn_))⟩)) (below_size tG))
   replace BK101 := Aside0.mk (blk_below (g := gb101) (tK BK101.out) hb)
   replace BK102 := Aside0.mk (blk_below (g := gb102) (tK BK102.out) hb)
   replace BK103 := Aside0.mk (blk_below (g := gb103) (tK BK103.out) hb)
   replace HB := Aside0.mk (below_step tG hb)
   (try clear hb)
   (try clear hb2)
   (try clear hk)
   (try clear hi)
   (try clear ho0)
   obtain ⟨Ao71, co71, eo71⟩ := Kd.V_slice HO124.out
   (first | subst eo71 | (injection eo71 with f1_ f2_ f3_; have f4_ := f1_.symm; have f5_ := f3_.symm; clear f1_ f2_ f3_; subst f4_; subst f5_))
   obtain ⟨Ao72, co72, eo72⟩ := Kd.V_slice HO127.out
   (first | subst eo72 | (injection eo72 with f1_ f2_ f3_; have f4_ := f1_.symm; have f5_ := f3_.symm; clear f1_ f2_ f3_; subst f4_; subst f5_))
   refine hK.out _ _ ⟨(blk_cell BK101.out 0).trans rfl, (blk_cell BK101.out 1).trans rfl, (blk_cell BK101.out 2).trans rfl, (blk_cell BK102.out 0).trans rfl, (blk_cell BK102.out 1).trans rfl, (blk_cell BK102.out 2).trans rfl⟩ (fun hHeld => ?_)
   clear hK K
   refine nm ?_
   refine one_ (i := 16) (N := some 24) (bm 17 20) rfl rfl (one_of HT_.out (by kernel_rfl)) (by decide) (fun K hK => ?_)
   refine goes_ Tryd.func132 (by kernel_rfl) rfl #[.slice Ao71 t122.length co71, .slice Ao72 t125.length co72] (by rfl) rfl rfl tL ?_
   with_reducible refine (earshotref01_times.calls k _ _ t122 _ _ t125 t128 _ ?side1 ?side2 ?side3 ?side4 A11.out).mono ?_
   (case side1 => exact tC (Kd.V_reads' HO124.out).2.2)
   (case side2 => exact (Kd.V_reads' HO124.out).2.1)
   (case side3 => exact tC (Kd.V_reads' HO127.out).2.2)
   (case side4 => exact (Kd.V_reads' HO127.out).2.1)
   rintro e w73 ⟨v129, rfl, ho0, hb⟩
   refine ⟨_, rfl, ?_⟩
   replace HO106 := Aside0.mk (Kd.V_below (tV HO106.out) hb)
   replace HO109 := Aside0.mk (Kd.V_below (tV HO109.out) hb)
   replace HO112 := Aside0.mk (Kd.V_below (tV HO112.out) hb)
   replace HO115 := Aside0.mk (Kd.V_below (tV HO115.out) hb)
   replace HO118 := Aside0.mk (Kd.V_below (tV HO118.out) hb)
   replace HO121 := Aside0.mk (Kd.V_below (tV HO121.out) hb)
   replace HO124 := Aside0.mk (Kd.V_below (tV HO124.out) hb)
   replace HO127 := Aside0.mk (Kd.V_below (tV HO127.out) hb)
   have HO130 := Aside0.mk (Kd.V_lower (Kd.V_mono (ok' := fun k_ => k_ ≠ gb101 ∧ k_ ≠ gb102 ∧ k_ ≠ gb103) ho0 (fun k_ hk_ => ⟨(Kd.freshB (g := gb101) (tK BK101.out) k_ hk_), (Kd.freshB (g := gb102) (tK BK102.out) k_ hk_), (Kd.freshB (g := gb103) (tK BK103.out) k_ hk_)⟩)) (below_size tG))
   replace BK101 := Aside0.mk (blk_below (g := gb101) (tK BK101.out) hb)
   replace BK102 := Aside0.mk (blk_below (g := gb102) (tK BK102.out) hb)
   replace BK103 := Aside0.mk (blk_below (g := gb103) (tK BK103.out) hb)
   replace HB := Aside0.mk (below_step tG hb)
   (try clear hb)
   (try clear hb2)
   (try clear hk)
   (try clear hi)
   (try clear ho0)
   refine hK.out _ _ ⟨(blk_cell BK101.out 0).trans rfl, (blk_cell BK101.out 1).trans rfl, (blk_cell BK101.out 2).trans rfl, (blk_cell BK102.out 0).trans rfl, (blk_cell BK102.out 1).trans rfl, (blk_cell BK102.out 2).trans rfl⟩ (fun hHeld => ?_)
   clear hK K
   refine nm ?_
   refine pI 17 (some 5) (bm 18 20) HT_.out ?_
   refine pI 18 (some 6) (bm 19 20) HT_.out ?_
   refine pI 19 (some 7) (bm 20 20) HT_.out ?_
   refine done_ (done_of HT_.out (by kernel_rfl)) ?_
   have hnb74 := NB101_102.out
   have hnc74 := NB102_101.out
   have hnb75 := NB101_103.out
   have hnc75 := NB103_101.out
   have hcz76_0 : w73.cell? ⟨gb101, 0, none⟩ = some (.bool a0_0) := (blk_cell BK101.out 0).trans rfl
   have hcz76_1 : w73.cell? ⟨gb101, 1, none⟩ = some (.slice A0_1 l0_1.length c0_1) := (blk_cell BK101.out 1).trans rfl
   have hcz76_2 : w73.cell? ⟨gb101, 2, none⟩ = some (.slice A0_2 l0_2.length c0_2) := (blk_cell BK101.out 2).trans rfl
   have hfz76_0 := blk_frozen BK101.out 0
   have hfz76_1 := blk_frozen BK101.out 1
   have hfz76_2 := blk_frozen BK101.out 2
   have hnb77 := NB102_103.out
   have hnc77 := NB103_102.out
   have hcz78_0 : w73.cell? ⟨gb102, 0, none⟩ = some (.bool a1_0) := (blk_cell BK102.out 0).trans rfl
   have hcz78_1 : w73.cell? ⟨gb102, 1, none⟩ = some (.slice A1_1 l1_1.length c1_1) := (blk_cell BK102.out 1).trans rfl
   have hcz78_2 : w73.cell? ⟨gb102, 2, none⟩ = some (.slice A1_2 l1_2.length c1_2) := (blk_cell BK102.out 2).trans rfl
   have hfz78_0 := blk_frozen BK102.out 0
   have hfz78_1 := blk_frozen BK102.out 1
   have hfz78_2 := blk_frozen BK102.out 2
   obtain ⟨Ao79, co79, eo79⟩ := Kd.V_slice HO112.out
   subst eo79
   obtain ⟨Ao80, co80, eo80⟩ := Kd.V_slice HO121.out
   subst eo80
   try go_wp2_with (first | ((with_reducible refine gate_callee (f := 168) rfl ?_); refine goesL_ (some 39) rfl rfl Tryd.func168 (by kernel_rfl) rfl #[.slice Ao79 t110.length co79, .slice Ao80 t119.length co80] rfl tL ?_; (with_reducible refine (earshotref01_order.calls k _ _ t110 _ _ t119 t141 _ ?side1 ?side2 ?side3 ?side4 A51.out).mono ?_); (case side1 => exact tC (Kd.V_reads' HO112.out).2.2); (case side2 => exact (Kd.V_reads' HO112.out).2.1); (case side3 => exact tC (Kd.V_reads' HO121.out).2.2); (case side4 => exact (Kd.V_reads' HO121.out).2.1); rintro e w81 ⟨rfl, hb⟩; refine ⟨_, rfl, ?_⟩; replace HO106 := Aside0.mk (Kd.V_below (tV HO106.out) hb); replace HO109 := Aside0.mk (Kd.V_below (tV HO109.out) hb); replace HO112 := Aside0.mk (Kd.V_below (tV HO112.out) hb); replace HO115 := Aside0.mk (Kd.V_below (tV HO115.out) hb); replace HO118 := Aside0.mk (Kd.V_below (tV HO118.out) hb); replace HO121 := Aside0.mk (Kd.V_below (tV HO121.out) hb); replace HO124 := Aside0.mk (Kd.V_below (tV HO124.out) hb); replace HO127 := Aside0.mk (Kd.V_below (tV HO127.out) hb); replace HO130 := Aside0.mk (Kd.V_below (tV HO130.out) hb); replace BK101 := Aside0.mk (blk_below (g := gb101) (tK BK101.out) hb); replace BK102 := Aside0.mk (blk_below (g := gb102) (tK BK102.out) hb); replace BK103 := Aside0.mk (blk_below (g := gb103) (tK BK103.out) hb); replace HB := Aside0.mk (below_step tG hb); (try clear hb); (try clear hb2); (try clear hk); (try clear hi)))
   replace HO106 := Aside0.mk (Kd.V_drew HO106.out)
   replace HO109 := Aside0.mk (Kd.V_drew HO109.out)
   replace HO112 := Aside0.mk (Kd.V_drew HO112.out)
   replace HO115 := Aside0.mk (Kd.V_drew HO115.out)
   replace HO118 := Aside0.mk (Kd.V_drew HO118.out)
   replace HO121 := Aside0.mk (Kd.V_drew HO121.out)
   replace HO124 := Aside0.mk (Kd.V_drew HO124.out)
   replace HO127 := Aside0.mk (Kd.V_drew HO127.out)
   replace HO130 := Aside0.mk (Kd.V_drew HO130.out)
   replace BK101 := Aside0.mk (blk_drew BK101.out)
   replace BK102 := Aside0.mk (blk_drew BK102.out)
   replace BK103 := Aside0.mk (blk_drew BK103.out)
   replace HB := Aside0.mk (below_drew1 HB.out)
   refine start_ (n := 8) (S := fun w' => w'.cell? ⟨gb101, 0, none⟩ = some (.bool a0_0) ∧ w'.cell? ⟨gb101, 1, none⟩ = some (.slice A0_1 l0_1.length c0_1) ∧ w'.cell? ⟨gb101, 2, none⟩ = some (.slice A0_2 l0_2.length c0_2)) (ds := []) (bm 0 8) (by kernel_rfl) rfl rfl ⟨(blk_cell BK101.out 0).trans rfl, (blk_cell BK101.out 1).trans rfl, (blk_cell BK101.out 2).trans rfl⟩ (fun hHeld => ?_); refine with_tabW earshotref01_Add.tab5 earshotref01_Add.bits5 (fun HT_ HW_ => ?_)
   generalize w81.drew = w82 at HO106 HO109 HO112 HO115 HO118 HO121 HO124 HO127 HO130 BK101 BK102 BK103 HB hHeld ⊢
   refine pI 0 (some 41) (bm 1 8) HT_.out ?_
   refine pI 2 (some 43) (bq 5 8) HT_.out ?_
   refine pI 3 (some 44) (bq 13 8) HT_.out ?_
   refine pI 5 (some 46) (bq 45 8) HT_.out ?_
   refine tk3 1 (some 42) (bq 47 8) HT_.out HW_.out hHeld ?_
   refine one_ (i := 4) (N := some 45) (bm 6 8) rfl rfl (one_of HT_.out (by kernel_rfl)) (by decide) (fun K hK => ?_)
   refine goes_ Tryd.func169 (by kernel_rfl) rfl #[.slice Ao79 t110.length co79, .slice Ao80 t119.length co80] (by rfl) rfl rfl tL ?_
   with_reducible refine (earshotref01_minus.calls k _ _ t110 _ _ t119 t142 _ ?side1 ?side2 ?side3 ?side4 A53.out).mono ?_
   (case side1 => exact tC (Kd.V_reads' HO112.out).2.2)
   (case side2 => exact (Kd.V_reads' HO112.out).2.1)
   (case side3 => exact tC (Kd.V_reads' HO121.out).2.2)
   (case side4 => exact (Kd.V_reads' HO121.out).2.1)
   rintro e w83 ⟨v143, rfl, ho0, hb⟩
   refine ⟨_, rfl, ?_⟩
   replace HO106 := Aside0.mk (Kd.V_below (tV HO106.out) hb)
   replace HO109 := Aside0.mk (Kd.V_below (tV HO109.out) hb)
   replace HO112 := Aside0.mk (Kd.V_below (tV HO112.out) hb)
   replace HO115 := Aside0.mk (Kd.V_below (tV HO115.out) hb)
   replace HO118 := Aside0.mk (Kd.V_below (tV HO118.out) hb)
   replace HO121 := Aside0.mk (Kd.V_below (tV HO121.out) hb)
   replace HO124 := Aside0.mk (Kd.V_below (tV HO124.out) hb)
   replace HO127 := Aside0.mk (Kd.V_below (tV HO127.out) hb)
   replace HO130 := Aside0.mk (Kd.V_below (tV HO130.out) hb)
   have HO144 := Aside0.mk (Kd.V_lower (Kd.V_mono (ok' := fun k_ => k_ ≠ gb101 ∧ k_ ≠ gb102 ∧ k_ ≠ gb103) ho0 (fun k_ hk_ => ⟨(Kd.freshB (g := gb101) (tK BK101.out) k_ hk_), (Kd.freshB (g := gb102) (tK BK102.out) k_ hk_), (Kd.freshB (g := gb103) (tK BK103.out) k_ hk_)⟩)) (below_size tG))
   replace BK101 := Aside0.mk (blk_below (g := gb101) (tK BK101.out) hb)
   replace BK102 := Aside0.mk (blk_below (g := gb102) (tK BK102.out) hb)
   replace BK103 := Aside0.mk (blk_below (g := gb103) (tK BK103.out) hb)
   replace HB := Aside0.mk (below_step tG hb)
   (try clear hb)
   (try clear hb2)
   (try clear hk)
   (try clear hi)
   (try clear ho0)
   obtain ⟨Ao84, co84, eo84⟩ := Kd.V_slice HO144.out
   (first | subst eo84 | (injection eo84 with f1_ f2_ f3_; have f4_ := f1_.symm; have f5_ := f3_.symm; clear f1_ f2_ f3_; subst f4_; subst f5_))
   obtain ⟨Ao85, co85, eo85⟩ := Kd.V_slice HO130.out
   (first | subst eo85 | (injection eo85 with f1_ f2_ f3_; have f4_ := f1_.symm; have f5_ := f3_.symm; clear f1_ f2_ f3_; subst f4_; subst f5_))
   refine hK.out _ _ ⟨(blk_cell BK101.out 0).trans rfl, (blk_cell BK101.out 1).trans rfl, (blk_cell BK101.out 2).trans rfl⟩ (fun hHeld => ?_)
   clear hK K
   refine nm ?_
   refine one_ (i := 6) (N := some 47) (bm 7 8) rfl rfl (one_of HT_.out (by kernel_rfl)) (by decide) (fun K hK => ?_)
   refine goes_ Tryd.func129 (by kernel_rfl) rfl #[.bool a0_0, .slice Ao84 t142.length co84, .slice Ao85 t128.length co85] (by rfl) rfl rfl tL ?_
   with_reducible refine (earshotref01_make1.calls k a0_0 _ _ t142 _ _ t128 t145 t146 t149 _ ?side1 ?side2 ?side3 ?side4 A54.out).mono ?_
   (case side1 => exact tC (Kd.V_reads' HO144.out).2.2)
   (case side2 => exact (Kd.V_reads' HO144.out).2.1)
   (case side3 => exact tC (Kd.V_reads' HO130.out).2.2)
   (case side4 => exact (Kd.V_reads' HO130.out).2.1)
   rintro e w86 ⟨v147, v150, rfl, ho0, ho1, hb⟩
   refine ⟨_, rfl, ?_⟩
   replace HO106 := Aside0.mk (Kd.V_mono (Kd.V_told (Kd.V_told (Kd.V_old (tV HO106.out) hb) (Kd.R_base ho0)) (Kd.R_base ho1)) (fun _ h_ => h_.1))
   replace HO109 := Aside0.mk (Kd.V_mono (Kd.V_told (Kd.V_told (Kd.V_old (tV HO109.out) hb) (Kd.R_base ho0)) (Kd.R_base ho1)) (fun _ h_ => h_.1))
   replace HO112 := Aside0.mk (Kd.V_mono (Kd.V_told (Kd.V_told (Kd.V_old (tV HO112.out) hb) (Kd.R_base ho0)) (Kd.R_base ho1)) (fun _ h_ => h_.1))
   replace HO115 := Aside0.mk (Kd.V_mono (Kd.V_told (Kd.V_told (Kd.V_old (tV HO115.out) hb) (Kd.R_base ho0)) (Kd.R_base ho1)) (fun _ h_ => h_.1))
   replace HO118 := Aside0.mk (Kd.V_mono (Kd.V_told (Kd.V_told (Kd.V_old (tV HO118.out) hb) (Kd.R_base ho0)) (Kd.R_base ho1)) (fun _ h_ => h_.1))
   replace HO121 := Aside0.mk (Kd.V_mono (Kd.V_told (Kd.V_told (Kd.V_old (tV HO121.out) hb) (Kd.R_base ho0)) (Kd.R_base ho1)) (fun _ h_ => h_.1))
   replace HO124 := Aside0.mk (Kd.V_mono (Kd.V_told (Kd.V_told (Kd.V_old (tV HO124.out) hb) (Kd.R_base ho0)) (Kd.R_base ho1)) (fun _ h_ => h_.1))
   replace HO127 := Aside0.mk (Kd.V_mono (Kd.V_told (Kd.V_told (Kd.V_old (tV HO127.out) hb) (Kd.R_base ho0)) (Kd.R_base ho1)) (fun _ h_ => h_.1))
   replace HO130 := Aside0.mk (Kd.V_mono (Kd.V_told (Kd.V_told (Kd.V_old (tV HO130.out) hb) (Kd.R_base ho0)) (Kd.R_base ho1)) (fun _ h_ => h_.1))
   replace HO144 := Aside0.mk (Kd.V_mono (Kd.V_told (Kd.V_told (Kd.V_old (tV HO144.out) hb) (Kd.R_base ho0)) (Kd.R_base ho1)) (fun _ h_ => h_.1))
   have HO148 := Aside0.mk (Kd.R_lower ho0 (below_size tG))
   have HO151 := Aside0.mk (Kd.R_lower ho1 (below_size tG))
   replace BK101 := Aside0.mk (blk_below (g := gb101) (tK BK101.out) hb)
   replace BK102 := Aside0.mk (blk_below (g := gb102) (tK BK102.out) hb)
   replace BK103 := Aside0.mk (blk_below (g := gb103) (tK BK103.out) hb)
   replace HB := Aside0.mk (below_step tG hb)
   (try clear hb)
   (try clear hb2)
   (try clear hk)
   (try clear hi)
   (try clear ho0)
   (try clear ho1)
   obtain ⟨Ao88, co88, eo88⟩ := Kd.R_slice HO148.out
   (first | subst eo88 | (injection eo88 with f1_ f2_ f3_; have f4_ := f1_.symm; have f5_ := f3_.symm; clear f1_ f2_ f3_; subst f4_; subst f5_))
   obtain ⟨Ao90, co90, eo90⟩ := Kd.R_slice HO151.out
   (first | subst eo90 | (injection eo90 with f1_ f2_ f3_; have f4_ := f1_.symm; have f5_ := f3_.symm; clear f1_ f2_ f3_; subst f4_; subst f5_))
   refine hK.out _ _ ⟨(blk_cell BK101.out 0).trans rfl, (blk_cell BK101.out 1).trans rfl, (blk_cell BK101.out 2).trans rfl⟩ (fun hHeld => ?_)
   clear hK K
   refine nm ?_
   refine one_ (i := 7) (N := none) (bm 8 8) rfl rfl (one_of HT_.out (by kernel_rfl)) (by decide) (fun K hK => ?_)
   have hs87 : w86.cell? ⟨gb103, 0, none⟩ = some (.bool false) := (blk_cell BK103.out 0).trans rfl
   have hfs87 := blk_frozen BK103.out 0
   have hns87_0 := NB101_103.out
   have hns87_1 := NB102_103.out
   have hms87_0 := NB103_101.out
   have hms87_1 := NB103_102.out
   have hs89 : w86.cell? ⟨gb103, 1, none⟩ = some (.slice none 0 0) := (blk_cell BK103.out 1).trans rfl
   have hfs89 := blk_frozen BK103.out 1
   have hns89_0 := NB101_103.out
   have hns89_1 := NB102_103.out
   have hms89_0 := NB103_101.out
   have hms89_1 := NB103_102.out
   have hs91 : w86.cell? ⟨gb103, 2, none⟩ = some (.slice none 0 0) := (blk_cell BK103.out 2).trans rfl
   have hfs91 := blk_frozen BK103.out 2
   have hns91_0 := NB101_103.out
   have hns91_1 := NB102_103.out
   have hms91_0 := NB103_101.out
   have hms91_1 := NB103_102.out
   refine skip_ (w1 := ?_) (by rfl) rfl ?_ ?_
   rotate_left
   ·go_simp
    rfl
   refine hK.out _ _ ⟨((cell_far (p := ⟨gb103, _, none⟩) NB101_103.out _).trans (((cell_far (p := ⟨gb103, _, none⟩) NB101_103.out _).trans (((cell_far (p := ⟨gb103, _, none⟩) NB101_103.out _).trans (hHeld.1)))))), ((cell_far (p := ⟨gb103, _, none⟩) NB101_103.out _).trans (((cell_far (p := ⟨gb103, _, none⟩) NB101_103.out _).trans (((cell_far (p := ⟨gb103, _, none⟩) NB101_103.out _).trans (hHeld.2.1)))))), ((cell_far (p := ⟨gb103, _, none⟩) NB101_103.out _).trans (((cell_far (p := ⟨gb103, _, none⟩) NB101_103.out _).trans (((cell_far (p := ⟨gb103, _, none⟩) NB101_103.out _).trans (hHeld.2.2))))))⟩ (fun hHeld => ?_)
   clear hK K
   refine done_ (done_of HT_.out (by kernel_rfl)) ?_
   try go_wp2
   refine bodyPost_ret (results_cell_row rfl _ _ gb103 103 #[.bool t145, .slice Ao88 t146.length co88, .slice Ao90 t149.length co90] (0, 0) _ rfl (by (with_reducible repeat (first | refine blk_drewN ?_ _ | refine blk_drew ?_ | refine blk_alloc ?_ _)); refine blk_put (cs := #[.bool t145, .slice Ao88 t146.length co88, .slice none 0 0]) ?_ 2 _ rfl; (with_reducible repeat (first | refine blk_drewN ?_ _ | refine blk_drew ?_ | refine blk_alloc ?_ _)); refine blk_put (cs := #[.bool t145, .slice none 0 0, .slice none 0 0]) ?_ 1 _ rfl; (with_reducible repeat (first | refine blk_drewN ?_ _ | refine blk_drew ?_ | refine blk_alloc ?_ _)); refine blk_put (cs := #[.bool false, .slice none 0 0, .slice none 0 0]) ?_ 0 _ rfl; exact tK BK103.out) Tryd.underlying103 rfl (by kernel_rfl)) rfl ?_
   exact ⟨_, _, by first | rfl | (simp [errW_none, errW_some] <;> rfl) | (simp [*, errW_none, errW_some] <;> rfl), by (with_reducible repeat (first | apply Kd.R_alloc | apply Kd.R_drewN | apply Kd.R_drew)); exact Kd.R_mono (Kd.R_far (p := ⟨gb103, 2, none⟩) (Kd.R_far (p := ⟨gb103, 1, none⟩) (Kd.R_far (p := ⟨gb103, 0, none⟩) (Kd.R_types HO148.out BK103.out (by decide)) (fun _ hk => hk.2) (.bool t145)) (fun _ hk => hk.2) (.slice Ao88 t146.length co88)) (fun _ hk => hk.2) (.slice Ao90 t149.length co90)) (fun _ hk => hk.1), by (with_reducible repeat (first | apply Kd.R_alloc | apply Kd.R_drewN | apply Kd.R_drew)); exact Kd.R_mono (Kd.R_far (p := ⟨gb103, 2, none⟩) (Kd.R_far (p := ⟨gb103, 1, none⟩) (Kd.R_far (p := ⟨gb103, 0, none⟩) (Kd.R_types HO151.out BK103.out (by decide)) (fun _ hk => hk.2) (.bool t145)) (fun _ hk => hk.2) (.slice Ao88 t146.length co88)) (fun _ hk => hk.2) (.slice Ao90 t149.length co90)) (fun _ hk => hk.1), tG⟩
  ·rw [if_neg c52] at H
   have c52b0 : decide (0 ≤ t141) = false := decide_eq_false c52
   clear c52
   replace H := Option.bind_eq_some_iff.mp H
   obtain ⟨t152, A920, H⟩ := H
   try dsimp only at H
   have A92 := Aside0.mk A920
   clear A920
   replace H := Option.bind_eq_some_iff.mp H
   obtain ⟨⟨t155, t156, t159⟩, A930, H⟩ := H
   try dsimp only at H
   have A93 := Aside0.mk A930
   clear A930
   simp only [Option.some.injEq, Prod.mk.injEq] at H
   obtain ⟨rfl, rfl, rfl⟩ := H
   go_enter Tryd.func156, Tryd.ntmps156
   try go_wp2_with (first | ((with_reducible refine gate_dst (N := 2) rfl ?_); refine box_event ?hg (N := 2) ?hd (cs := #[.bool a0_0, .slice A0_1 l0_1.length c0_1, .slice A0_2 l0_2.length c0_2]) (t := 103) ?hr ?_; (case hd => rfl); (case hg => rfl); (case hr => first | (go_simp; done) | (go_simp; rfl)); intro gb101 hg w94 hbox hb; have BK101 := Aside0.mk (hbox); have GW101 := Aside0.mk ((by rw [hg]; exact (below_size tB) : w.heap.size ≤ gb101)); have GE101 := Aside0.mk ((by rw [hg]; exact (below_size tB) : w.heap.size ≤ gb101)); replace HB := Aside0.mk (below_step tB hb); clear hb hbox hg) | ((with_reducible refine gate_dst (N := 3) rfl ?_); refine box_event ?hg (N := 3) ?hd (cs := #[.bool a1_0, .slice A1_1 l1_1.length c1_1, .slice A1_2 l1_2.length c1_2]) (t := 103) ?hr ?_; (case hd => rfl); (case hg => rfl); (case hr => first | (go_simp; done) | (go_simp; rfl)); intro gb102 hg w95 hbox hb; have BK102 := Aside0.mk (hbox); have GW102 := Aside0.mk ((by rw [hg]; exact (below_size tG) : w.heap.size ≤ gb102)); have GE102 := Aside0.mk ((by rw [hg]; exact (below_size tG) : w.heap.size ≤ gb102)); replace HB := Aside0.mk (below_step tG hb); have NB101_102 := Aside0.mk ((by rw [hg]; exact Nat.ne_of_lt (blk_lt (g := gb101) (tK BK101.out)) : gb101 ≠ gb102)); have NB102_101 := Aside0.mk ((by rw [hg]; exact Nat.ne_of_gt (blk_lt (g := gb101) (tK BK101.out)) : gb102 ≠ gb101)); replace BK101 := Aside0.mk (blk_below (g := gb101) (tK BK101.out) hb); clear hb hbox hg) | ((with_reducible refine gate_dst (N := 4) rfl ?_); refine box_event ?hg (N := 4) ?hd (cs := #[.bool false, .slice none 0 0, .slice none 0 0]) (t := 103) ?hr ?_; (case hd => rfl); (case hg => rfl); (case hr => first | (go_simp; done) | (go_simp; rfl)); intro gb103 hg w96 hbox hb; have BK103 := Aside0.mk (hbox); have GW103 := Aside0.mk ((by rw [hg]; exact (below_size tG) : w.heap.size ≤ gb103)); have GE103 := Aside0.mk ((by rw [hg]; exact (below_size tG) : w.heap.size ≤ gb103)); replace HB := Aside0.mk (below_step tG hb); have NB101_103 := Aside0.mk ((by rw [hg]; exact Nat.ne_of_lt (blk_lt (g := gb101) (tK BK101.out)) : gb101 ≠ gb103)); have NB103_101 := Aside0.mk ((by rw [hg]; exact Nat.ne_of_gt (blk_lt (g := gb101) (tK BK101.out)) : gb103 ≠ gb101)); replace BK101 := Aside0.mk (blk_below (g := gb101) (tK BK101.out) hb); have NB102_103 := Aside0.mk ((by rw [hg]; exact Nat.ne_of_lt (blk_lt (g := gb102) (tK BK102.out)) : gb102 ≠ gb103)); have NB103_102 := Aside0.mk ((by rw [hg]; exact Nat.ne_of_gt (blk_lt (g := gb102) (tK BK102.out)) : gb103 ≠ gb102)); replace BK102 := Aside0.mk (blk_below (g := gb102) (tK BK102.out) hb); clear hb hbox hg))
   replace BK101 := Aside0.mk (blk_drew BK101.out)
   replace BK102 := Aside0.mk (blk_drew BK102.out)
   replace BK103 := Aside0.mk (blk_drew BK103.out)
   replace HB := Aside0.mk (below_drew1 HB.out)
   refine start_ (n := 20) (S := fun w' => w'.cell? ⟨gb101, 0, none⟩ = some (.bool a0_0) ∧ w'.cell? ⟨gb101, 1, none⟩ = some (.slice A0_1 l0_1.length c0_1) ∧ w'.cell? ⟨gb101, 2, none⟩ = some (.slice A0_2 l0_2.length c0_2) ∧ w'.cell? ⟨gb102, 0, none⟩ = some (.bool a1_0) ∧ w'.cell? ⟨gb102, 1, none⟩ = some (.slice A1_1 l1_1.length c1_1) ∧ w'.cell? ⟨gb102, 2, none⟩ = some (.slice A1_2 l1_2.length c1_2)) (ds := []) (bm 0 20) (by kernel_rfl) rfl rfl ⟨(blk_cell BK101.out 0).trans rfl, (blk_cell BK101.out 1).trans rfl, (blk_cell BK101.out 2).trans rfl, (blk_cell BK102.out 0).trans rfl, (blk_cell BK102.out 1).trans rfl, (blk_cell BK102.out 2).trans rfl⟩ (fun hHeld => ?_); refine with_tabW earshotref01_Add.tab1 earshotref01_Add.bits1 (fun HT_ HW_ => ?_)
   generalize w96.drew = w97 at BK101 BK102 BK103 HB hHeld ⊢
   refine pI 0 (some 8) (bm 1 20) HT_.out ?_
   refine pI 6 (some 14) (bq 65 20) HT_.out ?_
   refine tk6 1 (some 9) (bq 67 20) HT_.out HW_.out hHeld ?_
   refine tk6 3 (some 11) (bq 75 20) HT_.out HW_.out hHeld ?_
   refine tk6 7 (some 15) (bq 203 20) HT_.out HW_.out hHeld ?_
   refine tk6 9 (some 17) (bq 715 20) HT_.out HW_.out hHeld ?_
   refine tk6 12 (some 20) (bq 4811 20) HT_.out HW_.out hHeld ?_
   refine tk6 14 (some 22) (bq 21195 20) HT_.out HW_.out hHeld ?_
   refine one_ (i := 2) (N := some 10) (bq 21199 20) rfl rfl (one_of HT_.out (by kernel_rfl)) (by decide) (fun K hK => ?_)
   refine goes_ Tryd.func133 (by kernel_rfl) rfl #[.slice A0_1 l0_1.length c0_1] (by rfl) rfl rfl tL ?_
   with_reducible refine (earshotref01_trim.calls k (fun k_ => k_ < w.heap.size) _ _ l0_1 t104 _ ?side1 A3.out).mono ?_
   (case side1 => exact Kd.V_mk HC0_1.out (Kd.F_below (Kd.C_F (Kd.heap_int .u32) HR0_1.out) tG))
   rintro e w98 ⟨v105, rfl, ho0, hb⟩
   refine ⟨_, rfl, ?_⟩
   have HO106 := Aside0.mk (Kd.V_lower (Kd.V_mono (ok' := fun k_ => k_ ≠ gb101 ∧ k_ ≠ gb102 ∧ k_ ≠ gb103) ho0 (fun k_ hk_ => ⟨Or.elim hk_ (fun hs_ => fun e_ => Nat.not_le.2 hs_ (by rw [e_]; exact GW101.out)) (fun hn_ => (Kd.freshB (g := gb101) (tK BK101.out) k_ hn_)), Or.elim hk_ (fun hs_ => fun e_ => Nat.not_le.2 hs_ (by rw [e_]; exact GW102.out)) (fun hn_ => (Kd.freshB (g := gb102) (tK BK102.out) k_ hn_)), Or.elim hk_ (fun hs_ => fun e_ => Nat.not_le.2 hs_ (by rw [e_]; exact GW103.out)) (fun hn_ => (Kd.freshB (g := gb103) (tK BK103.out) k_ hn_))⟩)) (below_size tG))
   replace BK101 := Aside0.mk (blk_below (g := gb101) (tK BK101.out) hb)
   replace BK102 := Aside0.mk (blk_below (g := gb102) (tK BK102.out) hb)
   replace BK103 := Aside0.mk (blk_below (g := gb103) (tK BK103.out) hb)
   replace HB := Aside0.mk (below_step tG hb)
   (try clear hb)
   (try clear hb2)
   (try clear hk)
   (try clear hi)
   (try clear ho0)
   refine hK.out _ _ ⟨(blk_cell BK101.out 0).trans rfl, (blk_cell BK101.out 1).trans rfl, (blk_cell BK101.out 2).trans rfl, (blk_cell BK102.out 0).trans rfl, (blk_cell BK102.out 1).trans rfl, (blk_cell BK102.out 2).trans rfl⟩ (fun hHeld => ?_)
   clear hK K
   refine nm ?_
   refine one_ (i := 4) (N := some 12) (bq 21215 20) rfl rfl (one_of HT_.out (by kernel_rfl)) (by decide) (fun K hK => ?_)
   refine goes_ Tryd.func134 (by kernel_rfl) rfl #[.agg #[.bool a1_0, .slice A1_1 l1_1.length c1_1, .slice A1_2 l1_2.length c1_2]] (by rfl) rfl rfl tL ?_
   with_reducible refine (earshotref01_low.calls k a1_0 _ _ l1_1 (fun k_ => k_ < w.heap.size) _ _ l1_2 t107 _ ?side1 ?side2 ?side3 A4.out).mono ?_
   (case side1 => exact tC (Kd.C_below HR1_1.out HB.out))
   (case side2 => exact HC1_1.out)
   (case side3 => exact Kd.V_mk HC1_2.out (Kd.F_below (Kd.C_F (Kd.heap_int .u32) HR1_2.out) tG))
   rintro e w99 ⟨v108, rfl, ho0, hb⟩
   refine ⟨_, rfl, ?_⟩
   replace HO106 := Aside0.mk (Kd.V_below (tV HO106.out) hb)
   have HO109 := Aside0.mk (Kd.V_lower (Kd.V_mono (ok' := fun k_ => k_ ≠ gb101 ∧ k_ ≠ gb102 ∧ k_ ≠ gb103) ho0 (fun k_ hk_ => ⟨Or.elim hk_ (fun hs_ => fun e_ => Nat.not_le.2 hs_ (by rw [e_]; exact GW101.out)) (fun hn_ => (Kd.freshB (g := gb101) (tK BK101.out) k_ hn_)), Or.elim hk_ (fun hs_ => fun e_ => Nat.not_le.2 hs_ (by rw [e_]; exact GW102.out)) (fun hn_ => (Kd.freshB (g := gb102) (tK BK102.out) k_ hn_)), Or.elim hk_ (fun hs_ => fun e_ => Nat.not_le.2 hs_ (by rw [e_]; exact GW103.out)) (fun hn_ => (Kd.freshB (g := gb103) (tK BK103.out) k_ hn_))⟩)) (below_size tG))
   replace BK101 := Aside0.mk (blk_below (g := gb101) (tK BK101.out) hb)
   replace BK102 := Aside0.mk (blk_below (g := gb102) (tK BK102.out) hb)
   replace BK103 := Aside0.mk (blk_below (g := gb103) (tK BK103.out) hb)
   replace HB := Aside0.mk (below_step tG hb)
   (try clear hb)
   (try clear hb2)
   (try clear hk)
   (try clear hi)
   (try clear ho0)
   obtain ⟨Ao100, co100, eo100⟩ := Kd.V_slice HO106.out
   (first | subst eo100 | (injection eo100 with f1_ f2_ f3_; have f4_ := f1_.symm; have f5_ := f3_.symm; clear f1_ f2_ f3_; subst f4_; subst f5_))
   obtain ⟨Ao101, co101, eo101⟩ := Kd.V_slice HO109.out
   (first | subst eo101 | (injection eo101 with f1_ f2_ f3_; have f4_ := f1_.symm; have f5_ := f3_.symm; clear f1_ f2_ f3_; subst f4_; subst f5_))
   refine hK.out _ _ ⟨(blk_cell BK101.out 0).trans rfl, (blk_cell BK101.out 1).trans rfl, (blk_cell BK101.out 2).trans rfl, (blk_cell BK102.out 0).trans rfl, (blk_cell BK102.out 1).trans rfl, (blk_cell BK102.out 2).trans rfl⟩ (fun hHeld => ?_)
   clear hK K
   refine nm ?_
   refine one_ (i := 5) (N := some 13) (bq 21247 20) rfl rfl (one_of HT_.out (by kernel_rfl)) (by decide) (fun K hK => ?_)
   refine goes_ Tryd.func132 (by kernel_rfl) rfl #[.slice Ao100 t104.length co100, .slice Ao101 t107.length co101] (by rfl) rfl rfl tL ?_
   with_reducible refine (earshotref01_times.calls k _ _ t104 _ _ t107 t110 _ ?side1 ?side2 ?side3 ?side4 A5.out).mono ?_
   (case side1 => exact tC (Kd.V_reads' HO106.out).2.2)
   (case side2 => exact (Kd.V_reads' HO106.out).2.1)
   (case side3 => exact tC (Kd.V_reads' HO109.out).2.2)
   (case side4 => exact (Kd.V_reads' HO109.out).2.1)
   rintro e w102 ⟨v111, rfl, ho0, hb⟩
   refine ⟨_, rfl, ?_⟩
   replace HO106 := Aside0.mk (Kd.V_below (tV HO106.out) hb)
   replace HO109 := Aside0.mk (Kd.V_below (tV HO109.out) hb)
   have HO112 := Aside0.mk (Kd.V_lower (Kd.V_mono (ok' := fun k_ => k_ ≠ gb101 ∧ k_ ≠ gb102 ∧ k_ ≠ gb103) ho0 (fun k_ hk_ => ⟨(Kd.freshB (g := gb101) (tK BK101.out) k_ hk_), (Kd.freshB (g := gb102) (tK BK102.out) k_ hk_), (Kd.freshB (g := gb103) (tK BK103.out) k_ hk_)⟩)) (below_size tG))
   replace BK101 := Aside0.mk (blk_below (g := gb101) (tK BK101.out) hb)
   replace BK102 := Aside0.mk (blk_below (g := gb102) (tK BK102.out) hb)
   replace BK103 := Aside0.mk (blk_below (g := gb103) (tK BK103.out) hb)
   replace HB := Aside0.mk (below_step tG hb)
   (try clear hb)
   (try clear hb2)
   (try clear hk)
   (try clear hi)
   (try clear ho0)
   refine hK.out _ _ ⟨(blk_cell BK101.out 0).trans rfl, (blk_cell BK101.out 1).trans rfl, (blk_cell BK101.out 2).trans rfl, (blk_cell BK102.out 0).trans rfl, (blk_cell BK102.out 1).trans rfl, (blk_cell BK102.out 2).trans rfl⟩ (fun hHeld => ?_)
   clear hK K
   refine nm ?_
   refine one_ (i := 8) (N := some 16) (bq 21503 20) rfl rfl (one_of HT_.out (by kernel_rfl)) (by decide) (fun K hK => ?_)
   refine goes_ Tryd.func133 (by kernel_rfl) rfl #[.slice A1_1 l1_1.length c1_1] (by rfl) rfl rfl tL ?_
   with_reducible refine (earshotref01_trim.calls k (fun k_ => k_ < w.heap.size) _ _ l1_1 t113 _ ?side1 A6.out).mono ?_
   (case side1 => exact Kd.V_mk HC1_1.out (Kd.F_below (Kd.C_F (Kd.heap_int .u32) HR1_1.out) tG))
   rintro e w103 ⟨v114, rfl, ho0, hb⟩
   refine ⟨_, rfl, ?_⟩
   replace HO106 := Aside0.mk (Kd.V_below (tV HO106.out) hb)
   replace HO109 := Aside0.mk (Kd.V_below (tV HO109.out) hb)
   replace HO112 := Aside0.mk (Kd.V_below (tV HO112.out) hb)
   have HO115 := Aside0.mk (Kd.V_lower (Kd.V_mono (ok' := fun k_ => k_ ≠ gb101 ∧ k_ ≠ gb102 ∧ k_ ≠ gb103) ho0 (fun k_ hk_ => ⟨Or.elim hk_ (fun hs_ => fun e_ => Nat.not_le.2 hs_ (by rw [e_]; exact GW101.out)) (fun hn_ => (Kd.freshB (g := gb101) (tK BK101.out) k_ hn_)), Or.elim hk_ (fun hs_ => fun e_ => Nat.not_le.2 hs_ (by rw [e_]; exact GW102.out)) (fun hn_ => (Kd.freshB (g := gb102) (tK BK102.out) k_ hn_)), Or.elim hk_ (fun hs_ => fun e_ => Nat.not_le.2 hs_ (by rw [e_]; exact GW103.out)) (fun hn_ => (Kd.freshB (g := gb103) (tK BK103.out) k_ hn_))⟩)) (below_size tG))
   replace BK101 := Aside0.mk (blk_below (g := gb101) (tK BK101.out) hb)
   replace BK102 := Aside0.mk (blk_below (g := gb102) (tK BK102.out) hb)
   replace BK103 := Aside0.mk (blk_below (g := gb103) (tK BK103.out) hb)
   replace HB := Aside0.mk (below_step tG hb)
   (try clear hb)
   (try clear hb2)
   (try clear hk)
   (try clear hi)
   (try clear ho0)
   refine hK.out _ _ ⟨(blk_cell BK101.out 0).trans rfl, (blk_cell BK101.out 1).trans rfl, (blk_cell BK101.out 2).trans rfl, (blk_cell BK102.out 0).trans rfl, (blk_cell BK102.out 1).trans rfl, (blk_cell BK102.out 2).trans rfl⟩ (fun hHeld => ?_)
   clear hK K
   refine nm ?_
   refine one_ (i := 10) (N := some 18) (bq 22527 20) rfl rfl (one_of HT_.out (by kernel_rfl)) (by decide) (fun K hK => ?_)
   refine goes_ Tryd.func134 (by kernel_rfl) rfl #[.agg #[.bool a0_0, .slice A0_1 l0_1.length c0_1, .slice A0_2 l0_2.length c0_2]] (by rfl) rfl rfl tL ?_
   with_reducible refine (earshotref01_low.calls k a0_0 _ _ l0_1 (fun k_ => k_ < w.heap.size) _ _ l0_2 t116 _ ?side1 ?side2 ?side3 A7.out).mono ?_
   (case side1 => exact tC (Kd.C_below HR0_1.out HB.out))
   (case side2 => exact HC0_1.out)
   (case side3 => exact Kd.V_mk HC0_2.out (Kd.F_below (Kd.C_F (Kd.heap_int .u32) HR0_2.out) tG))
   rintro e w104 ⟨v117, rfl, ho0, hb⟩
   refine ⟨_, rfl, ?_⟩
   replace HO106 := Aside0.mk (Kd.V_below (tV HO106.out) hb)
   replace HO109 := Aside0.mk (Kd.V_below (tV HO109.out) hb)
   replace HO112 := Aside0.mk (Kd.V_below (tV HO112.out) hb)
   replace HO115 := Aside0.mk (Kd.V_below (tV HO115.out) hb)
   have HO118 := Aside0.mk (Kd.V_lower (Kd.V_mono (ok' := fun k_ => k_ ≠ gb101 ∧ k_ ≠ gb102 ∧ k_ ≠ gb103) ho0 (fun k_ hk_ => ⟨Or.elim hk_ (fun hs_ => fun e_ => Nat.not_le.2 hs_ (by rw [e_]; exact GW101.out)) (fun hn_ => (Kd.freshB (g := gb101) (tK BK101.out) k_ hn_)), Or.elim hk_ (fun hs_ => fun e_ => Nat.not_le.2 hs_ (by rw [e_]; exact GW102.out)) (fun hn_ => (Kd.freshB (g := gb102) (tK BK102.out) k_ hn_)), Or.elim hk_ (fun hs_ => fun e_ => Nat.not_le.2 hs_ (by rw [e_]; exact GW103.out)) (fun hn_ => (Kd.freshB (g := gb103) (tK BK103.out) k_ hn_))⟩)) (below_size tG))
   replace BK101 := Aside0.mk (blk_below (g := gb101) (tK BK101.out) hb)
   replace BK102 := Aside0.mk (blk_below (g := gb102) (tK BK102.out) hb)
   replace BK103 := Aside0.mk (blk_below (g := gb103) (tK BK103.out) hb)
   replace HB := Aside0.mk (below_step tG hb)
   (try clear hb)
   (try clear hb2)
   (try clear hk)
   (try clear hi)
   (try clear ho0)
   obtain ⟨Ao105, co105, eo105⟩ := Kd.V_slice HO115.out
   (first | subst eo105 | (injection eo105 with f1_ f2_ f3_; have f4_ := f1_.symm; have f5_ := f3_.symm; clear f1_ f2_ f3_; subst f4_; subst f5_))
   obtain ⟨Ao106, co106, eo106⟩ := Kd.V_slice HO118.out
   (first | subst eo106 | (injection eo106 with f1_ f2_ f3_; have f4_ := f1_.symm; have f5_ := f3_.symm; clear f1_ f2_ f3_; subst f4_; subst f5_))
   refine hK.out _ _ ⟨(blk_cell BK101.out 0).trans rfl, (blk_cell BK101.out 1).trans rfl, (blk_cell BK101.out 2).trans rfl, (blk_cell BK102.out 0).trans rfl, (blk_cell BK102.out 1).trans rfl, (blk_cell BK102.out 2).trans rfl⟩ (fun hHeld => ?_)
   clear hK K
   refine nm ?_
   refine one_ (i := 11) (N := some 19) (bq 24575 20) rfl rfl (one_of HT_.out (by kernel_rfl)) (by decide) (fun K hK => ?_)
   refine goes_ Tryd.func132 (by kernel_rfl) rfl #[.slice Ao105 t113.length co105, .slice Ao106 t116.length co106] (by rfl) rfl rfl tL ?_
   with_reducible refine (earshotref01_times.calls k _ _ t113 _ _ t116 t119 _ ?side1 ?side2 ?side3 ?side4 A8.out).mono ?_
   (case side1 => exact tC (Kd.V_reads' HO115.out).2.2)
   (case side2 => exact (Kd.V_reads' HO115.out).2.1)
   (case side3 => exact tC (Kd.V_reads' HO118.out).2.2)
   (case side4 => exact (Kd.V_reads' HO118.out).2.1)
   rintro e w107 ⟨v120, rfl, ho0, hb⟩
   refine ⟨_, rfl, ?_⟩
   replace HO106 := Aside0.mk (Kd.V_below (tV HO106.out) hb)
   replace HO109 := Aside0.mk (Kd.V_below (tV HO109.out) hb)
   replace HO112 := Aside0.mk (Kd.V_below (tV HO112.out) hb)
   replace HO115 := Aside0.mk (Kd.V_below (tV HO115.out) hb)
   replace HO118 := Aside0.mk (Kd.V_below (tV HO118.out) hb)
   have HO121 := Aside0.mk (Kd.V_lower (Kd.V_mono (ok' := fun k_ => k_ ≠ gb101 ∧ k_ ≠ gb102 ∧ k_ ≠ gb103) ho0 (fun k_ hk_ => ⟨(Kd.freshB (g := gb101) (tK BK101.out) k_ hk_), (Kd.freshB (g := gb102) (tK BK102.out) k_ hk_), (Kd.freshB (g := gb103) (tK BK103.out) k_ hk_)⟩)) (below_size tG))
   replace BK101 := Aside0.mk (blk_below (g := gb101) (tK BK101.out) hb)
   replace BK102 := Aside0.mk (blk_below (g := gb102) (tK BK102.out) hb)
   replace BK103 := Aside0.mk (blk_below (g := gb103) (tK BK103.out) hb)
   replace HB := Aside0.mk (below_step tG hb)
   (try clear hb)
   (try clear hb2)
   (try clear hk)
   (try clear hi)
   (try clear ho0)
   refine hK.out _ _ ⟨(blk_cell BK101.out 0).trans rfl, (blk_cell BK101.out 1).trans rfl, (blk_cell BK101.out 2).trans rfl, (blk_cell BK102.out 0).trans rfl, (blk_cell BK102.out 1).trans rfl, (blk_cell BK102.out 2).trans rfl⟩ (fun hHeld => ?_)
   clear hK K
   refine nm ?_
   refine one_ (i := 13) (N := some 21) (bm 15 20) rfl rfl (one_of HT_.out (by kernel_rfl)) (by decide) (fun K hK => ?_)
   refine goes_ Tryd.func134 (by kernel_rfl) rfl #[.agg #[.bool a0_0, .slice A0_1 l0_1.length c0_1, .slice A0_2 l0_2.length c0_2]] (by rfl) rfl rfl tL ?_
   with_reducible refine (earshotref01_low.calls k a0_0 _ _ l0_1 (fun k_ => k_ < w.heap.size) _ _ l0_2 t122 _ ?side1 ?side2 ?side3 A9.out).mono ?_
   (case side1 => exact tC (Kd.C_below HR0_1.out HB.out))
   (case side2 => exact HC0_1.out)
   (case side3 => exact Kd.V_mk HC0_2.out (Kd.F_below (Kd.C_F (Kd.heap_int .u32) HR0_2.out) tG))
   rintro e w108 ⟨v123, rfl, ho0, hb⟩
   refine ⟨_, rfl, ?_⟩
   replace HO106 := Aside0.mk (Kd.V_below (tV HO106.out) hb)
   replace HO109 := Aside0.mk (Kd.V_below (tV HO109.out) hb)
   replace HO112 := Aside0.mk (Kd.V_below (tV HO112.out) hb)
   replace HO115 := Aside0.mk (Kd.V_below (tV HO115.out) hb)
   replace HO118 := Aside0.mk (Kd.V_below (tV HO118.out) hb)
   replace HO121 := Aside0.mk (Kd.V_below (tV HO121.out) hb)
   have HO124 := Aside0.mk (Kd.V_lower (Kd.V_mono (ok' := fun k_ => k_ ≠ gb101 ∧ k_ ≠ gb102 ∧ k_ ≠ gb103) ho0 (fun k_ hk_ => ⟨Or.elim hk_ (fun hs_ => fun e_ => Nat.not_le.2 hs_ (by rw [e_]; exact GW101.out)) (fun hn_ => (Kd.freshB (g := gb101) (tK BK101.out) k_ hn_)), Or.elim hk_ (fun hs_ => fun e_ => Nat.not_le.2 hs_ (by rw [e_]; exact GW102.out)) (fun hn_ => (Kd.freshB (g := gb102) (tK BK102.out) k_ hn_)), Or.elim hk_ (fun hs_ => fun e_ => Nat.not_le.2 hs_ (by rw [e_]; exact GW103.out)) (fun hn_ => (Kd.freshB (g := gb103) (tK BK103.out) k_ hn_))⟩)) (below_size tG))
   replace BK101 := Aside0.mk (blk_below (g := gb101) (tK BK101.out) hb)
   replace BK102 := Aside0.mk (blk_below (g := gb102) (tK BK102.out) hb)
   replace BK103 := Aside0.mk (blk_below (g := gb103) (tK BK103.out) hb)
   replace HB := Aside0.mk (below_step tG hb)
   (try clear hb)
   (try clear hb2)
   (try clear hk)
   (try clear hi)
   (try clear ho0)
   refine hK.out _ _ ⟨(blk_cell BK101.out 0).trans rfl, (blk_cell BK101.out 1).trans rfl, (blk_cell BK101.out 2).trans rfl, (blk_cell BK102.out 0).trans rfl, (blk_cell BK102.out 1).trans rfl, (blk_cell BK102.out 2).trans rfl⟩ (fun hHeld => ?_)
   clear hK K
   refine nm ?_
   refine one_ (i := 15) (N := some 23) (bm 16 20) rfl rfl (one_of HT_.out (by kernel_rfl)) (by decide) (fun K hK => ?_)
   refine goes_ Tryd.func134 (by kernel_rfl) rfl #[.agg #[.bool a1_0, .slice A1_1 l1_1.length c1_1, .slice A1_2 l1_2.length c1_2]] (by rfl) rfl rfl tL ?_
   with_reducible refine (earshotref01_low.calls k a1_0 _ _ l1_1 (fun k_ => k_ < w.heap.size) _ _ l1_2 t125 _ ?side1 ?side2 ?side3 A10.out).mono ?_
   (case side1 => exact tC (Kd.C_below HR1_1.out HB.out))
   (case side2 => exact HC1_1.out)
   (case side3 => exact Kd.V_mk HC1_2.out (Kd.F_below (Kd.C_F (Kd.heap_int .u32) HR1_2.out) tG))
   rintro e w109 ⟨v126, rfl, ho0, hb⟩
   refine ⟨_, rfl, ?_⟩
   replace HO106 := Aside0.mk (Kd.V_below (tV HO106.out) hb)
   replace HO109 := Aside0.mk (Kd.V_below (tV HO109.out) hb)
   replace HO112 := Aside0.mk (Kd.V_below (tV HO112.out) hb)
   replace HO115 := Aside0.mk (Kd.V_below (tV HO115.out) hb)
   replace HO118 := Aside0.mk (Kd.V_below (tV HO118.out) hb)
   replace HO121 := Aside0.mk (Kd.V_below (tV HO121.out) hb)
   replace HO124 := Aside0.mk (Kd.V_below (tV HO124.out) hb)
   have HO127 := Aside0.mk (Kd.V_lower (Kd.V_mono (ok' := fun k_ => k_ ≠ gb101 ∧ k_ ≠ gb102 ∧ k_ ≠ gb103) ho0 (fun k_ hk_ => ⟨Or.elim hk_ (fun hs_ => fun e_ => Nat.not_le.2 hs_ (by rw [e_]; exact GW101.out)) (fun hn_ => (Kd.freshB (g := gb101) (tK BK101.out) k_ hn_)), Or.elim hk_ (fun hs_ => fun e_ => Nat.not_le.2 hs_ (by rw [e_]; exact GW102.out)) (fun hn_ => (Kd.freshB (g := gb102) (tK BK102.out) k_ hn_)), Or.elim hk_ (fun hs_ => fun e_ => Nat.not_le.2 hs_ (by rw [e_]; exact GW103.out)) (fun hn_ => (Kd.freshB (g := gb103) (tK BK103.out) k_ hn_))⟩)) (below_size tG))
   replace BK101 := Aside0.mk (blk_below (g := gb101) (tK BK101.out) hb)
   replace BK102 := Aside0.mk (blk_below (g := gb102) (tK BK102.out) hb)
   replace BK103 := Aside0.mk (blk_below (g := gb103) (tK BK103.out) hb)
   replace HB := Aside0.mk (below_step tG hb)
   (try clear hb)
   (try clear hb2)
   (try clear hk)
   (try clear hi)
   (try clear ho0)
   obtain ⟨Ao110, co110, eo110⟩ := Kd.V_slice HO124.out
   (first | subst eo110 | (injection eo110 with f1_ f2_ f3_; have f4_ := f1_.symm; have f5_ := f3_.symm; clear f1_ f2_ f3_; subst f4_; subst f5_))
   obtain ⟨Ao111, co111, eo111⟩ := Kd.V_slice HO127.out
   (first | subst eo111 | (injection eo111 with f1_ f2_ f3_; have f4_ := f1_.symm; have f5_ := f3_.symm; clear f1_ f2_ f3_; subst f4_; subst f5_))
   refine hK.out _ _ ⟨(blk_cell BK101.out 0).trans rfl, (blk_cell BK101.out 1).trans rfl, (blk_cell BK101.out 2).trans rfl, (blk_cell BK102.out 0).trans rfl, (blk_cell BK102.out 1).trans rfl, (blk_cell BK102.out 2).trans rfl⟩ (fun hHeld => ?_)
   clear hK K
   refine nm ?_
   refine one_ (i := 16) (N := some 24) (bm 17 20) rfl rfl (one_of HT_.out (by kernel_rfl)) (by decide) (fun K hK => ?_)
   refine goes_ Tryd.func132 (by kernel_rfl) rfl #[.slice Ao110 t122.length co110, .slice Ao111 t125.length co111] (by rfl) rfl rfl tL ?_
   with_reducible refine (earshotref01_times.calls k _ _ t122 _ _ t125 t128 _ ?side1 ?side2 ?side3 ?side4 A11.out).mono ?_
   (case side1 => exact tC (Kd.V_reads' HO124.out).2.2)
   (case side2 => exact (Kd.V_reads' HO124.out).2.1)
   (case side3 => exact tC (Kd.V_reads' HO127.out).2.2)
   (case side4 => exact (Kd.V_reads' HO127.out).2.1)
   rintro e w112 ⟨v129, rfl, ho0, hb⟩
   refine ⟨_, rfl, ?_⟩
   replace HO106 := Aside0.mk (Kd.V_below (tV HO106.out) hb)
   replace HO109 := Aside0.mk (Kd.V_below (tV HO109.out) hb)
   replace HO112 := Aside0.mk (Kd.V_below (tV HO112.out) hb)
   replace HO115 := Aside0.mk (Kd.V_below (tV HO115.out) hb)
   replace HO118 := Aside0.mk (Kd.V_below (tV HO118.out) hb)
   replace HO121 := Aside0.mk (Kd.V_below (tV HO121.out) hb)
   replace HO124 := Aside0.mk (Kd.V_below (tV HO124.out) hb)
   replace HO127 := Aside0.mk (Kd.V_below (tV HO127.out) hb)
   have HO130 := Aside0.mk (Kd.V_lower (Kd.V_mono (ok' := fun k_ => k_ ≠ gb101 ∧ k_ ≠ gb102 ∧ k_ ≠ gb103) ho0 (fun k_ hk_ => ⟨(Kd.freshB (g := gb101) (tK BK101.out) k_ hk_), (Kd.freshB (g := gb102) (tK BK102.out) k_ hk_), (Kd.freshB (g := gb103) (tK BK103.out) k_ hk_)⟩)) (below_size tG))
   replace BK101 := Aside0.mk (blk_below (g := gb101) (tK BK101.out) hb)
   replace BK102 := Aside0.mk (blk_below (g := gb102) (tK BK102.out) hb)
   replace BK103 := Aside0.mk (blk_below (g := gb103) (tK BK103.out) hb)
   replace HB := Aside0.mk (below_step tG hb)
   (try clear hb)
   (try clear hb2)
   (try clear hk)
   (try clear hi)
   (try clear ho0)
   refine hK.out _ _ ⟨(blk_cell BK101.out 0).trans rfl, (blk_cell BK101.out 1).trans rfl, (blk_cell BK101.out 2).trans rfl, (blk_cell BK102.out 0).trans rfl, (blk_cell BK102.out 1).trans rfl, (blk_cell BK102.out 2).trans rfl⟩ (fun hHeld => ?_)
   clear hK K
   refine nm ?_
   refine pI 17 (some 5) (bm 18 20) HT_.out ?_
   refine pI 18 (some 6) (bm 19 20) HT_.out ?_
   refine pI 19 (some 7) (bm 20 20) HT_.out ?_
   refine done_ (done_of HT_.out (by kernel_rfl)) ?_
   have hnb113 := NB101_102.out
   have hnc113 := NB102_101.out
   have hnb114 := NB101_103.out
   have hnc114 := NB103_101.out
   have hcz115_0 : w112.cell? ⟨gb101, 0, none⟩ = some (.bool a0_0) := (blk_cell BK101.out 0).trans rfl
   have hcz115_1 : w112.cell? ⟨gb101, 1, none⟩ = some (.slice A0_1 l0_1.length c0_1) := (blk_cell BK101.out 1).trans rfl
   have hcz115_2 : w112.cell? ⟨gb101, 2, none⟩ = some (.slice A0_2 l0_2.length c0_2) := (blk_cell BK101.out 2).trans rfl
   have hfz115_0 := blk_frozen BK101.out 0
   have hfz115_1 := blk_frozen BK101.out 1
   have hfz115_2 := blk_frozen BK101.out 2
   have hnb116 := NB102_103.out
   have hnc116 := NB103_102.out
   have hcz117_0 : w112.cell? ⟨gb102, 0, none⟩ = some (.bool a1_0) := (blk_cell BK102.out 0).trans rfl
   have hcz117_1 : w112.cell? ⟨gb102, 1, none⟩ = some (.slice A1_1 l1_1.length c1_1) := (blk_cell BK102.out 1).trans rfl
   have hcz117_2 : w112.cell? ⟨gb102, 2, none⟩ = some (.slice A1_2 l1_2.length c1_2) := (blk_cell BK102.out 2).trans rfl
   have hfz117_0 := blk_frozen BK102.out 0
   have hfz117_1 := blk_frozen BK102.out 1
   have hfz117_2 := blk_frozen BK102.out 2
   obtain ⟨Ao118, co118, eo118⟩ := Kd.V_slice HO112.out
   subst eo118
   obtain ⟨Ao119, co119, eo119⟩ := Kd.V_slice HO121.out
   subst eo119
   try go_wp2_with (first | ((with_reducible refine gate_callee (f := 168) rfl ?_); refine goesL_ (some 39) rfl rfl Tryd.func168 (by kernel_rfl) rfl #[.slice Ao118 t110.length co118, .slice Ao119 t119.length co119] rfl tL ?_; (with_reducible refine (earshotref01_order.calls k _ _ t110 _ _ t119 t141 _ ?side1 ?side2 ?side3 ?side4 A51.out).mono ?_); (case side1 => exact tC (Kd.V_reads' HO112.out).2.2); (case side2 => exact (Kd.V_reads' HO112.out).2.1); (case side3 => exact tC (Kd.V_reads' HO121.out).2.2); (case side4 => exact (Kd.V_reads' HO121.out).2.1); rintro e w120 ⟨rfl, hb⟩; refine ⟨_, rfl, ?_⟩; replace HO106 := Aside0.mk (Kd.V_below (tV HO106.out) hb); replace HO109 := Aside0.mk (Kd.V_below (tV HO109.out) hb); replace HO112 := Aside0.mk (Kd.V_below (tV HO112.out) hb); replace HO115 := Aside0.mk (Kd.V_below (tV HO115.out) hb); replace HO118 := Aside0.mk (Kd.V_below (tV HO118.out) hb); replace HO121 := Aside0.mk (Kd.V_below (tV HO121.out) hb); replace HO124 := Aside0.mk (Kd.V_below (tV HO124.out) hb); replace HO127 := Aside0.mk (Kd.V_below (tV HO127.out) hb); replace HO130 := Aside0.mk (Kd.V_below (tV HO130.out) hb); replace BK101 := Aside0.mk (blk_below (g := gb101) (tK BK101.out) hb); replace BK102 := Aside0.mk (blk_below (g := gb102) (tK BK102.out) hb); replace BK103 := Aside0.mk (blk_below (g := gb103) (tK BK103.out) hb); replace HB := Aside0.mk (below_step tG hb); (try clear hb); (try clear hb2); (try clear hk); (try clear hi)))
   replace HO106 := Aside0.mk (Kd.V_drew HO106.out)
   replace HO109 := Aside0.mk (Kd.V_drew HO109.out)
   replace HO112 := Aside0.mk (Kd.V_drew HO112.out)
   replace HO115 := Aside0.mk (Kd.V_drew HO115.out)
   replace HO118 := Aside0.mk (Kd.V_drew HO118.out)
   replace HO121 := Aside0.mk (Kd.V_drew HO121.out)
   replace HO124 := Aside0.mk (Kd.V_drew HO124.out)
   replace HO127 := Aside0.mk (Kd.V_drew HO127.out)
   replace HO130 := Aside0.mk (Kd.V_drew HO130.out)
   replace BK101 := Aside0.mk (blk_drew BK101.out)
   replace BK102 := Aside0.mk (blk_drew BK102.out)
   replace BK103 := Aside0.mk (blk_drew BK103.out)
   replace HB := Aside0.mk (below_drew1 HB.out)
   refine start_ (n := 8) (S := fun w' => w'.cell? ⟨gb102, 0, none⟩ = some (.bool a1_0) ∧ w'.cell? ⟨gb102, 1, none⟩ = some (.slice A1_1 l1_1.length c1_1) ∧ w'.cell? ⟨gb102, 2, none⟩ = some (.slice A1_2 l1_2.length c1_2)) (ds := []) (bm 0 8) (by kernel_rfl) rfl rfl ⟨(blk_cell BK102.out 0).trans rfl, (blk_cell BK102.out 1).trans rfl, (blk_cell BK102.out 2).trans rfl⟩ (fun hHeld => ?_); refine with_tabW earshotref01_Add.tab6 earshotref01_Add.bits6 (fun HT_ HW_ => ?_)
   generalize w120.drew = w121 at HO106 HO109 HO112 HO115 HO118 HO121 HO124 HO127 HO130 BK101 BK102 BK103 HB hHeld ⊢
   refine pI 0 (some 48) (bm 1 8) HT_.out ?_
   refine pI 2 (some 50) (bq 5 8) HT_.out ?_
   refine pI 3 (some 51) (bq 13 8) HT_.out ?_
   refine pI 5 (some 53) (bq 45 8) HT_.out ?_
   refine tk3 1 (some 49) (bq 47 8) HT_.out HW_.out hHeld ?_
   refine one_ (i := 4) (N := some 52) (bm 6 8) rfl rfl (one_of HT_.out (by kernel_rfl)) (by decide) (fun K hK => ?_)
   refine goes_ Tryd.func169 (by kernel_rfl) rfl #[.slice Ao119 t119.length co119, .slice Ao118 t110.length co118] (by rfl) rfl rfl tL ?_
   with_reducible refine (earshotref01_minus.calls k _ _ t119 _ _ t110 t152 _ ?side1 ?side2 ?side3 ?side4 A92.out).mono ?_
   (case side1 => exact tC (Kd.V_reads' HO121.out).2.2)
   (case side2 => exact (Kd.V_reads' HO121.out).2.1)
   (case side3 => exact tC (Kd.V_reads' HO112.out).2.2)
   (case side4 => exact (Kd.V_reads' HO112.out).2.1)
   rintro e w122 ⟨v153, rfl, ho0, hb⟩
   refine ⟨_, rfl, ?_⟩
   replace HO106 := Aside0.mk (Kd.V_below (tV HO106.out) hb)
   replace HO109 := Aside0.mk (Kd.V_below (tV HO109.out) hb)
   replace HO112 := Aside0.mk (Kd.V_below (tV HO112.out) hb)
   replace HO115 := Aside0.mk (Kd.V_below (tV HO115.out) hb)
   replace HO118 := Aside0.mk (Kd.V_below (tV HO118.out) hb)
   replace HO121 := Aside0.mk (Kd.V_below (tV HO121.out) hb)
   replace HO124 := Aside0.mk (Kd.V_below (tV HO124.out) hb)
   replace HO127 := Aside0.mk (Kd.V_below (tV HO127.out) hb)
   replace HO130 := Aside0.mk (Kd.V_below (tV HO130.out) hb)
   have HO154 := Aside0.mk (Kd.V_lower (Kd.V_mono (ok' := fun k_ => k_ ≠ gb101 ∧ k_ ≠ gb102 ∧ k_ ≠ gb103) ho0 (fun k_ hk_ => ⟨(Kd.freshB (g := gb101) (tK BK101.out) k_ hk_), (Kd.freshB (g := gb102) (tK BK102.out) k_ hk_), (Kd.freshB (g := gb103) (tK BK103.out) k_ hk_)⟩)) (below_size tG))
   replace BK101 := Aside0.mk (blk_below (g := gb101) (tK BK101.out) hb)
   replace BK102 := Aside0.mk (blk_below (g := gb102) (tK BK102.out) hb)
   replace BK103 := Aside0.mk (blk_below (g := gb103) (tK BK103.out) hb)
   replace HB := Aside0.mk (below_step tG hb)
   (try clear hb)
   (try clear hb2)
   (try clear hk)
   (try clear hi)
   (try clear ho0)
   obtain ⟨Ao123, co123, eo123⟩ := Kd.V_slice HO154.out
   (first | subst eo123 | (injection eo123 with f1_ f2_ f3_; have f4_ := f1_.symm; have f5_ := f3_.symm; clear f1_ f2_ f3_; subst f4_; subst f5_))
   obtain ⟨Ao124, co124, eo124⟩ := Kd.V_slice HO130.out
   (first | subst eo124 | (injection eo124 with f1_ f2_ f3_; have f4_ := f1_.symm; have f5_ := f3_.symm; clear f1_ f2_ f3_; subst f4_; subst f5_))
   refine hK.out _ _ ⟨(blk_cell BK102.out 0).trans rfl, (blk_cell BK102.out 1).trans rfl, (blk_cell BK102.out 2).trans rfl⟩ (fun hHeld => ?_)
   clear hK K
   refine nm ?_
   refine one_ (i := 6) (N := some 54) (bm 7 8) rfl rfl (one_of HT_.out (by kernel_rfl)) (by decide) (fun K hK => ?_)
   refine goes_ Tryd.func129 (by kernel_rfl) rfl #[.bool a1_0, .slice Ao123 t152.length co123, .slice Ao124 t128.length co124] (by rfl) rfl rfl tL ?_
   with_reducible refine (earshotref01_make1.calls k a1_0 _ _ t152 _ _ t128 t155 t156 t159 _ ?side1 ?side2 ?side3 ?side4 A93.out).mono ?_
   (case side1 => exact tC (Kd.V_reads' HO154.out).2.2)
   (case side2 => exact (Kd.V_reads' HO154.out).2.1)
   (case side3 => exact tC (Kd.V_reads' HO130.out).2.2)
   (case side4 => exact (Kd.V_reads' HO130.out).2.1)
   rintro e w125 ⟨v157, v160, rfl, ho0, ho1, hb⟩
   refine ⟨_, rfl, ?_⟩
   replace HO106 := Aside0.mk (Kd.V_mono (Kd.V_told (Kd.V_told (Kd.V_old (tV HO106.out) hb) (Kd.R_base ho0)) (Kd.R_base ho1)) (fun _ h_ => h_.1))
   replace HO109 := Aside0.mk (Kd.V_mono (Kd.V_told (Kd.V_told (Kd.V_old (tV HO109.out) hb) (Kd.R_base ho0)) (Kd.R_base ho1)) (fun _ h_ => h_.1))
   replace HO112 := Aside0.mk (Kd.V_mono (Kd.V_told (Kd.V_told (Kd.V_old (tV HO112.out) hb) (Kd.R_base ho0)) (Kd.R_base ho1)) (fun _ h_ => h_.1))
   replace HO115 := Aside0.mk (Kd.V_mono (Kd.V_told (Kd.V_told (Kd.V_old (tV HO115.out) hb) (Kd.R_base ho0)) (Kd.R_base ho1)) (fun _ h_ => h_.1))
   replace HO118 := Aside0.mk (Kd.V_mono (Kd.V_told (Kd.V_told (Kd.V_old (tV HO118.out) hb) (Kd.R_base ho0)) (Kd.R_base ho1)) (fun _ h_ => h_.1))
   replace HO121 := Aside0.mk (Kd.V_mono (Kd.V_told (Kd.V_told (Kd.V_old (tV HO121.out) hb) (Kd.R_base ho0)) (Kd.R_base ho1)) (fun _ h_ => h_.1))
   replace HO124 := Aside0.mk (Kd.V_mono (Kd.V_told (Kd.V_told (Kd.V_old (tV HO124.out) hb) (Kd.R_base ho0)) (Kd.R_base ho1)) (fun _ h_ => h_.1))
   replace HO127 := Aside0.mk (Kd.V_mono (Kd.V_told (Kd.V_told (Kd.V_old (tV HO127.out) hb) (Kd.R_base ho0)) (Kd.R_base ho1)) (fun _ h_ => h_.1))
   replace HO130 := Aside0.mk (Kd.V_mono (Kd.V_told (Kd.V_told (Kd.V_old (tV HO130.out) hb) (Kd.R_base ho0)) (Kd.R_base ho1)) (fun _ h_ => h_.1))
   replace HO154 := Aside0.mk (Kd.V_mono (Kd.V_told (Kd.V_told (Kd.V_old (tV HO154.out) hb) (Kd.R_base ho0)) (Kd.R_base ho1)) (fun _ h_ => h_.1))
   have HO158 := Aside0.mk (Kd.R_lower ho0 (below_size tG))
   have HO161 := Aside0.mk (Kd.R_lower ho1 (below_size tG))
   replace BK101 := Aside0.mk (blk_below (g := gb101) (tK BK101.out) hb)
   replace BK102 := Aside0.mk (blk_below (g := gb102) (tK BK102.out) hb)
   replace BK103 := Aside0.mk (blk_below (g := gb103) (tK BK103.out) hb)
   replace HB := Aside0.mk (below_step tG hb)
   (try clear hb)
   (try clear hb2)
   (try clear hk)
   (try clear hi)
   (try clear ho0)
   (try clear ho1)
   obtain ⟨Ao127, co127, eo127⟩ := Kd.R_slice HO158.out
   (first | subst eo127 | (injection eo127 with f1_ f2_ f3_; have f4_ := f1_.symm; have f5_ := f3_.symm; clear f1_ f2_ f3_; subst f4_; subst f5_))
   obtain ⟨Ao129, co129, eo129⟩ := Kd.R_slice HO161.out
   (first | subst eo129 | (injection eo129 with f1_ f2_ f3_; have f4_ := f1_.symm; have f5_ := f3_.symm; clear f1_ f2_ f3_; subst f4_; subst f5_))
   refine hK.out _ _ ⟨(blk_cell BK102.out 0).trans rfl, (blk_cell BK102.out 1).trans rfl, (blk_cell BK102.out 2).trans rfl⟩ (fun hHeld => ?_)
   clear hK K
   refine nm ?_
   refine one_ (i := 7) (N := none) (bm 8 8) rfl rfl (one_of HT_.out (by kernel_rfl)) (by decide) (fun K hK => ?_)
   have hs126 : w125.cell? ⟨gb103, 0, none⟩ = some (.bool false) := (blk_cell BK103.out 0).trans rfl
   have hfs126 := blk_frozen BK103.out 0
   have hns126_0 := NB101_103.out
   have hns126_1 := NB102_103.out
   have hms126_0 := NB103_101.out
   have hms126_1 := NB103_102.out
   have hs128 : w125.cell? ⟨gb103, 1, none⟩ = some (.slice none 0 0) := (blk_cell BK103.out 1).trans rfl
   have hfs128 := blk_frozen BK103.out 1
   have hns128_0 := NB101_103.out
   have hns128_1 := NB102_103.out
   have hms128_0 := NB103_101.out
   have hms128_1 := NB103_102.out
   have hs130 : w125.cell? ⟨gb103, 2, none⟩ = some (.slice none 0 0) := (blk_cell BK103.out 2).trans rfl
   have hfs130 := blk_frozen BK103.out 2
   have hns130_0 := NB101_103.out
   have hns130_1 := NB102_103.out
   have hms130_0 := NB103_101.out
   have hms130_1 := NB103_102.out
   refine skip_ (w1 := ?_) (by rfl) rfl ?_ ?_
   rotate_left
   ·go_simp
    rfl
   refine hK.out _ _ ⟨((cell_far (p := ⟨gb103, _, none⟩) NB102_103.out _).trans (((cell_far (p := ⟨gb103, _, none⟩) NB102_103.out _).trans (((cell_far (p := ⟨gb103, _, none⟩) NB102_103.out _).trans (hHeld.1)))))), ((cell_far (p := ⟨gb103, _, none⟩) NB102_103.out _).trans (((cell_far (p := ⟨gb103, _, none⟩) NB102_103.out _).trans (((cell_far (p := ⟨gb103, _, none⟩) NB102_103.out _).trans (hHeld.2.1)))))), ((cell_far (p := ⟨gb103, _, none⟩) NB102_103.out _).trans (((cell_far (p := ⟨gb103, _, none⟩) NB102_103.out _).trans (((cell_far (p := ⟨gb103, _, none⟩) NB102_103.out _).trans (hHeld.2.2))))))⟩ (fun hHeld => ?_)
   clear hK K
   refine done_ (done_of HT_.out (by kernel_rfl)) ?_
   try go_wp2
   refine bodyPost_ret (results_cell_row rfl _ _ gb103 103 #[.bool t155, .slice Ao127 t156.length co127, .slice Ao129 t159.length co129] (0, 0) _ rfl (by (with_reducible repeat (first | refine blk_drewN ?_ _ | refine blk_drew ?_ | refine blk_alloc ?_ _)); refine blk_put (cs := #[.bool t155, .slice Ao127 t156.length co127, .slice none 0 0]) ?_ 2 _ rfl; (with_reducible repeat (first | refine blk_drewN ?_ _ | refine blk_drew ?_ | refine blk_alloc ?_ _)); refine blk_put (cs := #[.bool t155, .slice none 0 0, .slice none 0 0]) ?_ 1 _ rfl; (with_reducible repeat (first | refine blk_drewN ?_ _ | refine blk_drew ?_ | refine blk_alloc ?_ _)); refine blk_put (cs := #[.bool false, .slice none 0 0, .slice none 0 0]) ?_ 0 _ rfl; exact tK BK103.out) Tryd.underlying103 rfl (by kernel_rfl)) rfl ?_
   exact ⟨_, _, by first | rfl | (simp [errW_none, errW_some] <;> rfl) | (simp [*, errW_none, errW_some] <;> rfl), by (with_reducible repeat (first | apply Kd.R_alloc | apply Kd.R_drewN | apply Kd.R_drew)); exact Kd.R_mono (Kd.R_far (p := ⟨gb103, 2, none⟩) (Kd.R_far (p := ⟨gb103, 1, none⟩) (Kd.R_far (p := ⟨gb103, 0, none⟩) (Kd.R_types HO158.out BK103.out (by decide)) (fun _ hk => hk.2) (.bool t155)) (fun _ hk => hk.2) (.slice Ao127 t156.length co127)) (fun _ hk => hk.2) (.slice Ao129 t159.length co129)) (fun _ hk => hk.1), by (with_reducible repeat (first | apply Kd.R_alloc | apply Kd.R_drewN | apply Kd.R_drew)); exact Kd.R_mono (Kd.R_far (p := ⟨gb103, 2, none⟩) (Kd.R_far (p := ⟨gb103, 1, none⟩) (Kd.R_far (p := ⟨gb103, 0, none⟩) (Kd.R_types HO161.out BK103.out (by decide)) (fun _ hk => hk.2) (.bool t155)) (fun _ hk => hk.2) (.slice Ao127 t156.length co127)) (fun _ hk => hk.2) (.slice Ao129 t159.length co129)) (fun _ hk => hk.1), tG⟩

/-! ### earshotref01_Neg: function 157 -/
def earshotref01_Neg.f (k : Nat) (a0_0 : Bool) (l0_1 : List Int) (l0_2 : List Int) : Option (Bool × List Int × List Int) := (earshotref01_make1.f k (!a0_0) l0_1 l0_2).bind fun bt103 => (some (bt103.1, bt103.2.1, bt103.2.2))
theorem earshotref01_Neg.mono : ∀ a0 a1 a2 k, LeO (earshotref01_Neg.f k a0 a1 a2) (earshotref01_Neg.f (k + 1) a0 a1 a2) := by
 intro a0 a1 a2 k
 unfold earshotref01_Neg.f
 repeat' first
   | (with_reducible exact earshotref01_make1.mono _ _ _ _)
   | (with_reducible exact LeO.refl _)
   | (with_reducible exact LeO.none _)
   | (with_reducible refine LeO.ite ?_ ?_)
   | (with_reducible refine LeO.bind ?_ (fun _ => ?_))
   | exact earshotref01_make1.mono _ _ _ _
   | exact LeO.none _
   | refine LeO.ite ?_ ?_
   | refine LeO.bind ?_ (fun _ => ?_)
set_option maxHeartbeats 8000000 in
set_option maxRecDepth 100000 in
theorem earshotref01_Neg.calls (k : Nat) (a0_0 : Bool) (A0_1 : Option Addr) (c0_1 : Nat) (l0_1 : List Int) (A0_2 : Option Addr) (c0_2 : Nat) (l0_2 : List Int) (r1 : Bool) (r2 : List Int) (r3 : List Int) (w : World) (hr0_1 : Kd.C (Kd.int .u32) w A0_1 l0_1.length l0_1) (hc0_1 : l0_1.length ≤ c0_1) (hr0_2 : Kd.C (Kd.int .u32) w A0_2 l0_2.length l0_2) (hc0_2 : l0_2.length ≤ c0_2) (h : earshotref01_Neg.f k a0_0 l0_1 l0_2 = some (r1, r2, r3)) :
  Calls Tryd.prog 157 #[.agg #[.bool a0_0, .slice A0_1 l0_1.length c0_1, .slice A0_2 l0_2.length c0_2]] w fun e w' => ∃ v1_ v2_ : Value, e = .returned (.agg #[.bool r1, v1_, v2_]) ∧ Kd.R (Kd.int .u32) 118 w' w.heap.size (fun k_ => some k_ ≠ (v2_ : Value).ownBlock) v1_ r2 ∧ Kd.R (Kd.int .u32) 118 w' w.heap.size (fun k_ => some k_ ≠ (v1_ : Value).ownBlock) v2_ r3 ∧ Below w.heap.size w w' := by
 have hu103 := Tryd.underlying103
 have HR0_1 := Aside0.mk hr0_1
 have HC0_1 := Aside0.mk hc0_1
 clear hr0_1 hc0_1
 have HR0_2 := Aside0.mk hr0_2
 have HC0_2 := Aside0.mk hc0_2
 clear hr0_2 hc0_2
 have HB := Aside0.mk (Below.refl w.heap.size w)
 have H : ((earshotref01_make1.f k (!a0_0) l0_1 l0_2).bind fun bt103 => (some (bt103.1, bt103.2.1, bt103.2.2))) = some (r1, r2, r3) := h
 clear h
 replace H := Option.bind_eq_some_iff.mp H
 obtain ⟨⟨t103, t104, t107⟩, A20, H⟩ := H
 try dsimp only at H
 have A2 := Aside0.mk A20
 clear A20
 simp only [Option.some.injEq, Prod.mk.injEq] at H
 obtain ⟨rfl, rfl, rfl⟩ := H
 go_enter Tryd.func157, Tryd.ntmps157
 go_wp2_with (first | ((with_reducible refine gate_dst (N := 1) rfl ?_); refine box_event ?hg (N := 1) ?hd (cs := #[.bool a0_0, .slice A0_1 l0_1.length c0_1, .slice A0_2 l0_2.length c0_2]) (t := 103) ?hr ?_; (case hd => rfl); (case hg => rfl); (case hr => first | (go_simp; done) | (go_simp; rfl)); intro gb101 hg w3 hbox hb; have BK101 := Aside0.mk (hbox); have GW101 := Aside0.mk ((by rw [hg]; exact (below_size tB) : w.heap.size ≤ gb101)); have GE101 := Aside0.mk ((by rw [hg]; exact (below_size tB) : w.heap.size ≤ gb101)); replace HB := Aside0.mk (below_step tB hb); clear hb hbox hg) | ((with_reducible refine gate_dst (N := 2) rfl ?_); refine box_event ?hg (N := 2) ?hd (cs := #[.bool false, .slice none 0 0, .slice none 0 0]) (t := 103) ?hr ?_; (case hd => rfl); (case hg => rfl); (case hr => first | (go_simp; done) | (go_simp; rfl)); intro gb102 hg w4 hbox hb; have BK102 := Aside0.mk (hbox); have GW102 := Aside0.mk ((by rw [hg]; exact (below_size tG) : w.heap.size ≤ gb102)); have GE102 := Aside0.mk ((by rw [hg]; exact (below_size tG) : w.heap.size ≤ gb102)); replace HB := Aside0.mk (below_step tG hb); have NB101_102 := Aside0.mk ((by rw [hg]; exact Nat.ne_of_lt (blk_lt (g := gb101) (tK BK101.out)) : gb101 ≠ gb102)); have NB102_101 := Aside0.mk ((by rw [hg]; exact Nat.ne_of_gt (blk_lt (g := gb101) (tK BK101.out)) : gb102 ≠ gb101)); replace BK101 := Aside0.mk (blk_below (g := gb101) (tK BK101.out) hb); clear hb hbox hg; have hnb5 := NB101_102.out; have hnc5 := NB102_101.out; have hcz6_0 : w4.cell? ⟨gb101, 0, none⟩ = some (.bool a0_0) := (blk_cell BK101.out 0).trans rfl; have hcz6_1 : w4.cell? ⟨gb101, 1, none⟩ = some (.slice A0_1 l0_1.length c0_1) := (blk_cell BK101.out 1).trans rfl; have hcz6_2 : w4.cell? ⟨gb101, 2, none⟩ = some (.slice A0_2 l0_2.length c0_2) := (blk_cell BK101.out 2).trans rfl; have hfz6_0 := blk_frozen BK101.out 0; have hfz6_1 := blk_frozen BK101.out 1; have hfz6_2 := blk_frozen BK101.out 2) | ((with_reducible refine gate_callee (f := 129) rfl ?_); refine goesL_ (some 10) rfl rfl Tryd.func129 (by kernel_rfl) rfl #[.bool (!a0_0), .slice A0_1 l0_1.length c0_1, .slice A0_2 l0_2.length c0_2] rfl tL ?_; (with_reducible refine (earshotref01_make1.calls k (!a0_0) _ _ l0_1 _ _ l0_2 t103 t104 t107 _ ?side1 ?side2 ?side3 ?side4 A2.out).mono ?_); (case side1 => exact tC (Kd.C_below HR0_1.out HB.out)); (case side2 => exact HC0_1.out); (case side3 => exact tC (Kd.C_below HR0_2.out HB.out)); (case side4 => exact HC0_2.out); rintro e w7 ⟨v105, v108, rfl, ho0, ho1, hb⟩; refine ⟨_, rfl, ?_⟩; have HO106 := Aside0.mk (Kd.R_lower ho0 (below_size tG)); have HO109 := Aside0.mk (Kd.R_lower ho1 (below_size tG)); replace BK101 := Aside0.mk (blk_below (g := gb101) (tK BK101.out) hb); replace BK102 := Aside0.mk (blk_below (g := gb102) (tK BK102.out) hb); replace HB := Aside0.mk (below_step tG hb); (try clear hb); (try clear hb2); (try clear hk); (try clear hi); (try clear ho0); (try clear ho1); have hcz8_0 : w7.cell? ⟨gb102, 0, none⟩ = some (.bool false) := (blk_cell BK102.out 0).trans rfl; have hcz8_1 : w7.cell? ⟨gb102, 1, none⟩ = some (.slice none 0 0) := (blk_cell BK102.out 1).trans rfl; have hcz8_2 : w7.cell? ⟨gb102, 2, none⟩ = some (.slice none 0 0) := (blk_cell BK102.out 2).trans rfl; have hfz8_0 := blk_frozen BK102.out 0; have hfz8_1 := blk_frozen BK102.out 1; have hfz8_2 := blk_frozen BK102.out 2; obtain ⟨Ao9, co9, eo9⟩ := Kd.R_slice HO106.out; subst eo9; obtain ⟨Ao10, co10, eo10⟩ := Kd.R_slice HO109.out; subst eo10))
 refine bodyPost_ret (results_cell_row rfl _ _ gb102 103 #[.bool t103, .slice Ao9 t104.length co9, .slice Ao10 t107.length co10] (0, 0) _ rfl (by (with_reducible repeat (first | refine blk_drewN ?_ _ | refine blk_drew ?_ | refine blk_alloc ?_ _)); refine blk_put (cs := #[.bool t103, .slice Ao9 t104.length co9, .slice none 0 0]) ?_ 2 _ rfl; (with_reducible repeat (first | refine blk_drewN ?_ _ | refine blk_drew ?_ | refine blk_alloc ?_ _)); refine blk_put (cs := #[.bool t103, .slice none 0 0, .slice none 0 0]) ?_ 1 _ rfl; (with_reducible repeat (first | refine blk_drewN ?_ _ | refine blk_drew ?_ | refine blk_alloc ?_ _)); refine blk_put (cs := #[.bool false, .slice none 0 0, .slice none 0 0]) ?_ 0 _ rfl; exact tK BK102.out) Tryd.underlying103 rfl (by kernel_rfl)) rfl ?_
 exact ⟨_, _, by first | rfl | (simp [errW_none, errW_some] <;> rfl) | (simp [*, errW_none, errW_some] <;> rfl), by (with_reducible repeat (first | apply Kd.R_alloc | apply Kd.R_drewN | apply Kd.R_drew)); exact Kd.R_mono (Kd.R_far (p := ⟨gb102, 2, none⟩) (Kd.R_far (p := ⟨gb102, 1, none⟩) (Kd.R_far (p := ⟨gb102, 0, none⟩) (Kd.R_types HO106.out BK102.out (by decide)) (fun _ hk => hk.2) (.bool t103)) (fun _ hk => hk.2) (.slice Ao9 t104.length co9)) (fun _ hk => hk.2) (.slice Ao10 t107.length co10)) (fun _ hk => hk.1), by (with_reducible repeat (first | apply Kd.R_alloc | apply Kd.R_drewN | apply Kd.R_drew)); exact Kd.R_mono (Kd.R_far (p := ⟨gb102, 2, none⟩) (Kd.R_far (p := ⟨gb102, 1, none⟩) (Kd.R_far (p := ⟨gb102, 0, none⟩) (Kd.R_types HO109.out BK102.out (by decide)) (fun _ hk => hk.2) (.bool t103)) (fun _ hk => hk.2) (.slice Ao9 t104.length co9)) (fun _ hk => hk.2) (.slice Ao10 t107.length co10)) (fun _ hk => hk.1), tG⟩

/-! ### earshotref01_Sub: function 136 -/
def earshotref01_Sub.f (k : Nat) (a0_0 : Bool) (l0_1 : List Int) (l0_2 : List Int) (a1_0 : Bool) (l1_1 : List Int) (l1_2 : List Int) : Option (Bool × List Int × List Int) := (earshotref01_Neg.f k a1_0 l1_1 l1_2).bind fun bt104 => ((earshotref01_Add.f k a0_0 l0_1 l0_2 bt104.1 bt104.2.1 bt104.2.2).bind fun bt111 => (some (bt111.1, bt111.2.1, bt111.2.2)))
theorem earshotref01_Sub.mono : ∀ a0 a1 a2 a3 a4 a5 k, LeO (earshotref01_Sub.f k a0 a1 a2 a3 a4 a5) (earshotref01_Sub.f (k + 1) a0 a1 a2 a3 a4 a5) := by
 intro a0 a1 a2 a3 a4 a5 k
 unfold earshotref01_Sub.f
 repeat' first
   | (with_reducible exact earshotref01_Add.mono _ _ _ _ _ _ _)
   | (with_reducible exact earshotref01_Neg.mono _ _ _ _)
   | (with_reducible exact LeO.refl _)
   | (with_reducible exact LeO.none _)
   | (with_reducible refine LeO.ite ?_ ?_)
   | (with_reducible refine LeO.bind ?_ (fun _ => ?_))
   | exact earshotref01_Add.mono _ _ _ _ _ _ _
   | exact earshotref01_Neg.mono _ _ _ _
   | exact LeO.none _
   | refine LeO.ite ?_ ?_
   | refine LeO.bind ?_ (fun _ => ?_)
set_option maxHeartbeats 8000000 in
set_option maxRecDepth 100000 in
theorem earshotref01_Sub.calls (k : Nat) (a0_0 : Bool) (A0_1 : Option Addr) (c0_1 : Nat) (l0_1 : List Int) (A0_2 : Option Addr) (c0_2 : Nat) (l0_2 : List Int) (a1_0 : Bool) (A1_1 : Option Addr) (c1_1 : Nat) (l1_1 : List Int) (A1_2 : Option Addr) (c1_2 : Nat) (l1_2 : List Int) (r1 : Bool) (r2 : List Int) (r3 : List Int) (w : World) (hr0_1 : Kd.C (Kd.int .u32) w A0_1 l0_1.length l0_1) (hc0_1 : l0_1.length ≤ c0_1) (hr0_2 : Kd.C (Kd.int .u32) w A0_2 l0_2.length l0_2) (hc0_2 : l0_2.length ≤ c0_2) (hr1_1 : Kd.C (Kd.int .u32) w A1_1 l1_1.length l1_1) (hc1_1 : l1_1.length ≤ c1_1) (hr1_2 : Kd.C (Kd.int .u32) w A1_2 l1_2.length l1_2) (hc1_2 : l1_2.length ≤ c1_2) (h : earshotref01_Sub.f k a0_0 l0_1 l0_2 a1_0 l1_1 l1_2 = some (r1, r2, r3)) :
  Calls Tryd.prog 136 #[.agg #[.bool a0_0, .slice A0_1 l0_1.length c0_1, .slice A0_2 l0_2.length c0_2], .agg #[.bool a1_0, .slice A1_1 l1_1.length c1_1, .slice A1_2 l1_2.length c1_2]] w fun e w' => ∃ v1_ v2_ : Value, e = .returned (.agg #[.bool r1, v1_, v2_]) ∧ Kd.R (Kd.int .u32) 118 w' w.heap.size (fun k_ => some k_ ≠ (v2_ : Value).ownBlock) v1_ r2 ∧ Kd.R (Kd.int .u32) 118 w' w.heap.size (fun k_ => some k_ ≠ (v1_ : Value).ownBlock) v2_ r3 ∧ Below w.heap.size w w' := by
 have hu103 := Tryd.underlying103
 have HR0_1 := Aside0.mk hr0_1
 have HC0_1 := Aside0.mk hc0_1
 clear hr0_1 hc0_1
 have HR0_2 := Aside0.mk hr0_2
 have HC0_2 := Aside0.mk hc0_2
 clear hr0_2 hc0_2
 have HR1_1 := Aside0.mk hr1_1
 have HC1_1 := Aside0.mk hc1_1
 clear hr1_1 hc1_1
 have HR1_2 := Aside0.mk hr1_2
 have HC1_2 := Aside0.mk hc1_2
 clear hr1_2 hc1_2
 have HB := Aside0.mk (Below.refl w.heap.size w)
 have H : ((earshotref01_Neg.f k a1_0 l1_1 l1_2).bind fun bt104 => ((earshotref01_Add.f k a0_0 l0_1 l0_2 bt104.1 bt104.2.1 bt104.2.2).bind fun bt111 => (some (bt111.1, bt111.2.1, bt111.2.2)))) = some (r1, r2, r3) := h
 clear h
 replace H := Option.bind_eq_some_iff.mp H
 obtain ⟨⟨t104, t105, t108⟩, A30, H⟩ := H
 try dsimp only at H
 have A3 := Aside0.mk A30
 clear A30
 replace H := Option.bind_eq_some_iff.mp H
 obtain ⟨⟨t111, t112, t115⟩, A40, H⟩ := H
 try dsimp only at H
 have A4 := Aside0.mk A40
 clear A40
 simp only [Option.some.injEq, Prod.mk.injEq] at H
 obtain ⟨rfl, rfl, rfl⟩ := H
 go_enter Tryd.func136, Tryd.ntmps136
 try go_wp2_with (first | ((with_reducible refine gate_dst (N := 2) rfl ?_); refine box_event ?hg (N := 2) ?hd (cs := #[.bool a0_0, .slice A0_1 l0_1.length c0_1, .slice A0_2 l0_2.length c0_2]) (t := 103) ?hr ?_; (case hd => rfl); (case hg => rfl); (case hr => first | (go_simp; done) | (go_simp; rfl)); intro gb101 hg w5 hbox hb; have BK101 := Aside0.mk (hbox); have GW101 := Aside0.mk ((by rw [hg]; exact (below_size tB) : w.heap.size ≤ gb101)); have GE101 := Aside0.mk ((by rw [hg]; exact (below_size tB) : w.heap.size ≤ gb101)); replace HB := Aside0.mk (below_step tB hb); clear hb hbox hg) | ((with_reducible refine gate_dst (N := 3) rfl ?_); refine box_event ?hg (N := 3) ?hd (cs := #[.bool a1_0, .slice A1_1 l1_1.length c1_1, .slice A1_2 l1_2.length c1_2]) (t := 103) ?hr ?_; (case hd => rfl); (case hg => rfl); (case hr => first | (go_simp; done) | (go_simp; rfl)); intro gb102 hg w6 hbox hb; have BK102 := Aside0.mk (hbox); have GW102 := Aside0.mk ((by rw [hg]; exact (below_size tG) : w.heap.size ≤ gb102)); have GE102 := Aside0.mk ((by rw [hg]; exact (below_size tG) : w.heap.size ≤ gb102)); replace HB := Aside0.mk (below_step tG hb); have NB101_102 := Aside0.mk ((by rw [hg]; exact Nat.ne_of_lt (blk_lt (g := gb101) (tK BK101.out)) : gb101 ≠ gb102)); have NB102_101 := Aside0.mk ((by rw [hg]; exact Nat.ne_of_gt (blk_lt (g := gb101) (tK BK101.out)) : gb102 ≠ gb101)); replace BK101 := Aside0.mk (blk_below (g := gb101) (tK BK101.out) hb); clear hb hbox hg) | ((with_reducible refine gate_dst (N := 4) rfl ?_); refine box_event ?hg (N := 4) ?hd (cs := #[.bool false, .slice none 0 0, .slice none 0 0]) (t := 103) ?hr ?_; (case hd => rfl); (case hg => rfl); (case hr => first | (go_simp; done) | (go_simp; rfl)); intro gb103 hg w7 hbox hb; have BK103 := Aside0.mk (hbox); have GW103 := Aside0.mk ((by rw [hg]; exact (below_size tG) : w.heap.size ≤ gb103)); have GE103 := Aside0.mk ((by rw [hg]; exact (below_size tG) : w.heap.size ≤ gb103)); replace HB := Aside0.mk (below_step tG hb); have NB101_103 := Aside0.mk ((by rw [hg]; exact Nat.ne_of_lt (blk_lt (g := gb101) (tK BK101.out)) : gb101 ≠ gb103)); have NB103_101 := Aside0.mk ((by rw [hg]; exact Nat.ne_of_gt (blk_lt (g := gb101) (tK BK101.out)) : gb103 ≠ gb101)); replace BK101 := Aside0.mk (blk_below (g := gb101) (tK BK101.out) hb); have NB102_103 := Aside0.mk ((by rw [hg]; exact Nat.ne_of_lt (blk_lt (g := gb102) (tK BK102.out)) : gb102 ≠ gb103)); have NB103_102 := Aside0.mk ((by rw [hg]; exact Nat.ne_of_gt (blk_lt (g := gb102) (tK BK102.out)) : gb103 ≠ gb102)); replace BK102 := Aside0.mk (blk_below (g := gb102) (tK BK102.out) hb); clear hb hbox hg))
 replace BK101 := Aside0.mk (blk_drew BK101.out)
 replace BK102 := Aside0.mk (blk_drew BK102.out)
 replace BK103 := Aside0.mk (blk_drew BK103.out)
 replace HB := Aside0.mk (below_drew1 HB.out)
 refine start_ (n := 5) (S := fun w' => w'.cell? ⟨gb101, 0, none⟩ = some (.bool a0_0) ∧ w'.cell? ⟨gb101, 1, none⟩ = some (.slice A0_1 l0_1.length c0_1) ∧ w'.cell? ⟨gb101, 2, none⟩ = some (.slice A0_2 l0_2.length c0_2) ∧ w'.cell? ⟨gb102, 0, none⟩ = some (.bool a1_0) ∧ w'.cell? ⟨gb102, 1, none⟩ = some (.slice A1_1 l1_1.length c1_1) ∧ w'.cell? ⟨gb102, 2, none⟩ = some (.slice A1_2 l1_2.length c1_2)) (ds := []) (bm 0 5) (by kernel_rfl) rfl rfl ⟨(blk_cell BK101.out 0).trans rfl, (blk_cell BK101.out 1).trans rfl, (blk_cell BK101.out 2).trans rfl, (blk_cell BK102.out 0).trans rfl, (blk_cell BK102.out 1).trans rfl, (blk_cell BK102.out 2).trans rfl⟩ (fun hHeld => ?_)
 generalize w7.drew = w8 at BK101 BK102 BK103 HB hHeld ⊢
 refine take_ (i := 0) (N := some 5) (v := ?_) (a' := ?_) (bm 1 5) rfl rfl (by kernel_rfl) (fun _ _ _ h => h) (Or.inl ⟨by rfl, ?_⟩) hHeld ?_ ?_
 rotate_left
 ·rintro w' ⟨s0, s1, s2, s3, s4, s5⟩
  go_simp
  with_reducible rfl
 rotate_left
 ·simp only [Act.put, List.setIfInBounds_toArray, List.set_cons_zero, List.set_cons_succ, i64_w, i32_w]
  rfl
 refine take_ (i := 1) (N := some 6) (v := ?_) (a' := ?_) (bm 2 5) rfl rfl (by kernel_rfl) (fun _ _ _ h => h) (Or.inl ⟨by rfl, ?_⟩) hHeld ?_ ?_
 rotate_left
 ·rintro w' ⟨s0, s1, s2, s3, s4, s5⟩
  go_simp
  with_reducible rfl
 rotate_left
 ·simp only [Act.put, List.setIfInBounds_toArray, List.set_cons_zero, List.set_cons_succ, i64_w, i32_w]
  rfl
 refine one_ (i := 2) (N := some 7) (bm 3 5) rfl rfl (by kernel_rfl) (by decide) (fun K hK => ?_)
 refine goes_ Tryd.func157 (by kernel_rfl) rfl #[.agg #[.bool a1_0, .slice A1_1 l1_1.length c1_1, .slice A1_2 l1_2.length c1_2]] (by rfl) rfl rfl tL ?_
 with_reducible refine (earshotref01_Neg.calls k a1_0 _ _ l1_1 _ _ l1_2 t104 t105 t108 _ ?side1 ?side2 ?side3 ?side4 A3.out).mono ?_
 (case side1 => exact tC (Kd.C_below HR1_1.out HB.out))
 (case side2 => exact HC1_1.out)
 (case side3 => exact tC (Kd.C_below HR1_2.out HB.out))
 (case side4 => exact HC1_2.out)
 rintro e w9 ⟨v106, v109, rfl, ho0, ho1, hb⟩
 refine ⟨_, rfl, ?_⟩
 have HO107 := Aside0.mk (Kd.R_lower ho0 (below_size tG))
 have HO110 := Aside0.mk (Kd.R_lower ho1 (below_size tG))
 replace BK101 := Aside0.mk (blk_below (g := gb101) (tK BK101.out) hb)
 replace BK102 := Aside0.mk (blk_below (g := gb102) (tK BK102.out) hb)
 replace BK103 := Aside0.mk (blk_below (g := gb103) (tK BK103.out) hb)
 replace HB := Aside0.mk (below_step tG hb)
 (try clear hb)
 (try clear hb2)
 (try clear hk)
 (try clear hi)
 (try clear ho0)
 (try clear ho1)
 obtain ⟨Ao10, co10, eo10⟩ := Kd.R_slice HO107.out
 (first | subst eo10 | (injection eo10 with f1_ f2_ f3_; have f4_ := f1_.symm; have f5_ := f3_.symm; clear f1_ f2_ f3_; subst f4_; subst f5_))
 obtain ⟨Ao11, co11, eo11⟩ := Kd.R_slice HO110.out
 (first | subst eo11 | (injection eo11 with f1_ f2_ f3_; have f4_ := f1_.symm; have f5_ := f3_.symm; clear f1_ f2_ f3_; subst f4_; subst f5_))
 refine hK.out _ _ ⟨(blk_cell BK101.out 0).trans rfl, (blk_cell BK101.out 1).trans rfl, (blk_cell BK101.out 2).trans rfl, (blk_cell BK102.out 0).trans rfl, (blk_cell BK102.out 1).trans rfl, (blk_cell BK102.out 2).trans rfl⟩ (fun hHeld => ?_)
 clear hK K
 refine nm ?_
 refine one_ (i := 3) (N := some 8) (bm 4 5) rfl rfl (by kernel_rfl) (by decide) (fun K hK => ?_)
 refine goes_ Tryd.func156 (by kernel_rfl) rfl #[.agg #[.bool a0_0, .slice A0_1 l0_1.length c0_1, .slice A0_2 l0_2.length c0_2], .agg #[.bool t104, .slice Ao10 t105.length co10, .slice Ao11 t108.length co11]] (by rfl) rfl rfl tL ?_
 with_reducible refine (earshotref01_Add.calls k a0_0 _ _ l0_1 _ _ l0_2 t104 _ _ t105 _ _ t108 t111 t112 t115 _ ?side1 ?side2 ?side3 ?side4 ?side5 ?side6 ?side7 ?side8 A4.out).mono ?_
 (case side1 => exact tC (Kd.C_below HR0_1.out HB.out))
 (case side2 => exact HC0_1.out)
 (case side3 => exact tC (Kd.C_below HR0_2.out HB.out))
 (case side4 => exact HC0_2.out)
 (case side5 => exact tC (Kd.R_reads' HO107.out).2.2)
 (case side6 => exact (Kd.R_reads' HO107.out).2.1)
 (case side7 => exact tC (Kd.R_reads' HO110.out).2.2)
 (case side8 => exact (Kd.R_reads' HO110.out).2.1)
 rintro e w12 ⟨v113, v116, rfl, ho0, ho1, hb⟩
 refine ⟨_, rfl, ?_⟩
 have HO114 := Aside0.mk (Kd.R_lower (Kd.R_new' (Kd.R_new' ho0 (Kd.R_lt (tR HO107.out))) (Kd.R_lt (tR HO110.out))) (below_size tG))
 have HO117 := Aside0.mk (Kd.R_lower (Kd.R_new' (Kd.R_new' ho1 (Kd.R_lt (tR HO107.out))) (Kd.R_lt (tR HO110.out))) (below_size tG))
 replace HO107 := Aside0.mk (Kd.R_mono (Kd.R_told (Kd.R_told (Kd.R_old (tR HO107.out) hb) (Kd.R_base ho0)) (Kd.R_base ho1)) (fun _ h_ => h_.1))
 replace HO110 := Aside0.mk (Kd.R_mono (Kd.R_told (Kd.R_told (Kd.R_old (tR HO110.out) hb) (Kd.R_base ho0)) (Kd.R_base ho1)) (fun _ h_ => h_.1))
 replace BK101 := Aside0.mk (blk_below (g := gb101) (tK BK101.out) hb)
 replace BK102 := Aside0.mk (blk_below (g := gb102) (tK BK102.out) hb)
 replace BK103 := Aside0.mk (blk_below (g := gb103) (tK BK103.out) hb)
 replace HB := Aside0.mk (below_step tG hb)
 (try clear hb)
 (try clear hb2)
 (try clear hk)
 (try clear hi)
 (try clear ho0)
 (try clear ho1)
 obtain ⟨Ao14, co14, eo14⟩ := Kd.R_slice HO114.out
 (first | subst eo14 | (injection eo14 with f1_ f2_ f3_; have f4_ := f1_.symm; have f5_ := f3_.symm; clear f1_ f2_ f3_; subst f4_; subst f5_))
 obtain ⟨Ao16, co16, eo16⟩ := Kd.R_slice HO117.out
 (first | subst eo16 | (injection eo16 with f1_ f2_ f3_; have f4_ := f1_.symm; have f5_ := f3_.symm; clear f1_ f2_ f3_; subst f4_; subst f5_))
 refine hK.out _ _ ⟨(blk_cell BK101.out 0).trans rfl, (blk_cell BK101.out 1).trans rfl, (blk_cell BK101.out 2).trans rfl, (blk_cell BK102.out 0).trans rfl, (blk_cell BK102.out 1).trans rfl, (blk_cell BK102.out 2).trans rfl⟩ (fun hHeld => ?_)
 clear hK K
 refine nm ?_
 refine one_ (i := 4) (N := none) (bm 5 5) rfl rfl (by kernel_rfl) (by decide) (fun K hK => ?_)
 have hs13 : w12.cell? ⟨gb103, 0, none⟩ = some (.bool false) := (blk_cell BK103.out 0).trans rfl
 have hfs13 := blk_frozen BK103.out 0
 have hns13_0 := NB101_103.out
 have hns13_1 := NB102_103.out
 have hms13_0 := NB103_101.out
 have hms13_1 := NB103_102.out
 have hs15 : w12.cell? ⟨gb103, 1, none⟩ = some (.slice none 0 0) := (blk_cell BK103.out 1).trans rfl
 have hfs15 := blk_frozen BK103.out 1
 have hns15_0 := NB101_103.out
 have hns15_1 := NB102_103.out
 have hms15_0 := NB103_101.out
 have hms15_1 := NB103_102.out
 have hs17 : w12.cell? ⟨gb103, 2, none⟩ = some (.slice none 0 0) := (blk_cell BK103.out 2).trans rfl
 have hfs17 := blk_frozen BK103.out 2
 have hns17_0 := NB101_103.out
 have hns17_1 := NB102_103.out
 have hms17_0 := NB103_101.out
 have hms17_1 := NB103_102.out
 refine skip_ (w1 := ?_) (by rfl) rfl ?_ ?_
 rotate_left
 ·go_simp
  rfl
 refine hK.out _ _ ⟨((cell_far (p := ⟨gb103, _, none⟩) NB101_103.out _).trans (((cell_far (p := ⟨gb103, _, none⟩) NB101_103.out _).trans (((cell_far (p := ⟨gb103, _, none⟩) NB101_103.out _).trans (hHeld.1)))))), ((cell_far (p := ⟨gb103, _, none⟩) NB101_103.out _).trans (((cell_far (p := ⟨gb103, _, none⟩) NB101_103.out _).trans (((cell_far (p := ⟨gb103, _, none⟩) NB101_103.out _).trans (hHeld.2.1)))))), ((cell_far (p := ⟨gb103, _, none⟩) NB101_103.out _).trans (((cell_far (p := ⟨gb103, _, none⟩) NB101_103.out _).trans (((cell_far (p := ⟨gb103, _, none⟩) NB101_103.out _).trans (hHeld.2.2.1)))))), ((cell_far (p := ⟨gb103, _, none⟩) NB102_103.out _).trans (((cell_far (p := ⟨gb103, _, none⟩) NB102_103.out _).trans (((cell_far (p := ⟨gb103, _, none⟩) NB102_103.out _).trans (hHeld.2.2.2.1)))))), ((cell_far (p := ⟨gb103, _, none⟩) NB102_103.out _).trans (((cell_far (p := ⟨gb103, _, none⟩) NB102_103.out _).trans (((cell_far (p := ⟨gb103, _, none⟩) NB102_103.out _).trans (hHeld.2.2.2.2.1)))))), ((cell_far (p := ⟨gb103, _, none⟩) NB102_103.out _).trans (((cell_far (p := ⟨gb103, _, none⟩) NB102_103.out _).trans (((cell_far (p := ⟨gb103, _, none⟩) NB102_103.out _).trans (hHeld.2.2.2.2.2))))))⟩ (fun hHeld => ?_)
 clear hK K
 refine done_ (by kernel_rfl) ?_
 try go_wp2
 refine bodyPost_ret (results_cell_row rfl _ _ gb103 103 #[.bool t111, .slice Ao14 t112.length co14, .slice Ao16 t115.length co16] (0, 0) _ rfl (by (with_reducible repeat (first | refine blk_drewN ?_ _ | refine blk_drew ?_ | refine blk_alloc ?_ _)); refine blk_put (cs := #[.bool t111, .slice Ao14 t112.length co14, .slice none 0 0]) ?_ 2 _ rfl; (with_reducible repeat (first | refine blk_drewN ?_ _ | refine blk_drew ?_ | refine blk_alloc ?_ _)); refine blk_put (cs := #[.bool t111, .slice none 0 0, .slice none 0 0]) ?_ 1 _ rfl; (with_reducible repeat (first | refine blk_drewN ?_ _ | refine blk_drew ?_ | refine blk_alloc ?_ _)); refine blk_put (cs := #[.bool false, .slice none 0 0, .slice none 0 0]) ?_ 0 _ rfl; exact tK BK103.out) Tryd.underlying103 rfl (by kernel_rfl)) rfl ?_
 exact ⟨_, _, by first | rfl | (simp [errW_none, errW_some] <;> rfl) | (simp [*, errW_none, errW_some] <;> rfl), by (with_reducible repeat (first | apply Kd.R_alloc | apply Kd.R_drewN | apply Kd.R_drew)); exact Kd.R_mono (Kd.R_far (p := ⟨gb103, 2, none⟩) (Kd.R_far (p := ⟨gb103, 1, none⟩) (Kd.R_far (p := ⟨gb103, 0, none⟩) (Kd.R_types HO114.out BK103.out (by decide)) (fun _ hk => hk.2) (.bool t111)) (fun _ hk => hk.2) (.slice Ao14 t112.length co14)) (fun _ hk => hk.2) (.slice Ao16 t115.length co16)) (fun _ hk => hk.1.1.1), by (with_reducible repeat (first | apply Kd.R_alloc | apply Kd.R_drewN | apply Kd.R_drew)); exact Kd.R_mono (Kd.R_far (p := ⟨gb103, 2, none⟩) (Kd.R_far (p := ⟨gb103, 1, none⟩) (Kd.R_far (p := ⟨gb103, 0, none⟩) (Kd.R_types HO117.out BK103.out (by decide)) (fun _ hk => hk.2) (.bool t111)) (fun _ hk => hk.2) (.slice Ao14 t112.length co14)) (fun _ hk => hk.2) (.slice Ao16 t115.length co16)) (fun _ hk => hk.1.1.1), tG⟩

/-! ### earshotref01_Cmp: function 88 -/
def earshotref01_Cmp.f (k : Nat) (a0_0 : Bool) (l0_1 : List Int) (l0_2 : List Int) (a1_0 : Bool) (l1_1 : List Int) (l1_2 : List Int) : Option (Int) := (earshotref01_Sub.f k a0_0 l0_1 l0_2 a1_0 l1_1 l1_2).bind fun bt103 => ((earshotref01_Sign.f k bt103.1 bt103.2.1 bt103.2.2).bind fun t110 => (some t110))
theorem earshotref01_Cmp.mono : ∀ a0 a1 a2 a3 a4 a5 k, LeO (earshotref01_Cmp.f k a0 a1 a2 a3 a4 a5) (earshotref01_Cmp.f (k + 1) a0 a1 a2 a3 a4 a5) := by
 intro a0 a1 a2 a3 a4 a5 k
 unfold earshotref01_Cmp.f
 repeat' first
   | (with_reducible exact earshotref01_Sign.mono _ _ _ _)
   | (with_reducible exact earshotref01_Sub.mono _ _ _ _ _ _ _)
   | (with_reducible exact LeO.refl _)
   | (with_reducible exact LeO.none _)
   | (with_reducible refine LeO.ite ?_ ?_)
   | (with_reducible refine LeO.bind ?_ (fun _ => ?_))
   | exact earshotref01_Sign.mono _ _ _ _
   | exact earshotref01_Sub.mono _ _ _ _ _ _ _
   | exact LeO.none _
   | refine LeO.ite ?_ ?_
   | refine LeO.bind ?_ (fun _ => ?_)
set_option maxHeartbeats 8000000 in
set_option maxRecDepth 100000 in
theorem earshotref01_Cmp.calls (k : Nat) (a0_0 : Bool) (A0_1 : Option Addr) (c0_1 : Nat) (l0_1 : List Int) (A0_2 : Option Addr) (c0_2 : Nat) (l0_2 : List Int) (a1_0 : Bool) (A1_1 : Option Addr) (c1_1 : Nat) (l1_1 : List Int) (A1_2 : Option Addr) (c1_2 : Nat) (l1_2 : List Int) (r : Int) (w : World) (hr0_1 : Kd.C (Kd.int .u32) w A0_1 l0_1.length l0_1) (hc0_1 : l0_1.length ≤ c0_1) (hr0_2 : Kd.C (Kd.int .u32) w A0_2 l0_2.length l0_2) (hc0_2 : l0_2.length ≤ c0_2) (hr1_1 : Kd.C (Kd.int .u32) w A1_1 l1_1.length l1_1) (hc1_1 : l1_1.length ≤ c1_1) (hr1_2 : Kd.C (Kd.int .u32) w A1_2 l1_2.length l1_2) (hc1_2 : l1_2.length ≤ c1_2) (h : earshotref01_Cmp.f k a0_0 l0_1 l0_2 a1_0 l1_1 l1_2 = some r) :
  Calls Tryd.prog 88 #[.agg #[.bool a0_0, .slice A0_1 l0_1.length c0_1, .slice A0_2 l0_2.length c0_2], .agg #[.bool a1_0, .slice A1_1 l1_1.length c1_1, .slice A1_2 l1_2.length c1_2]] w fun e w' => e = .returned (.int .i64 r) ∧ Below w.heap.size w w' := by
 have hu103 := Tryd.underlying103
 have HR0_1 := Aside0.mk hr0_1
 have HC0_1 := Aside0.mk hc0_1
 clear hr0_1 hc0_1
 have HR0_2 := Aside0.mk hr0_2
 have HC0_2 := Aside0.mk hc0_2
 clear hr0_2 hc0_2
 have HR1_1 := Aside0.mk hr1_1
 have HC1_1 := Aside0.mk hc1_1
 clear hr1_1 hc1_1
 have HR1_2 := Aside0.mk hr1_2
 have HC1_2 := Aside0.mk hc1_2
 clear hr1_2 hc1_2
 have HB := Aside0.mk (Below.refl w.heap.size w)
 have H : ((earshotref01_Sub.f k a0_0 l0_1 l0_2 a1_0 l1_1 l1_2).bind fun bt103 => ((earshotref01_Sign.f k bt103.1 bt103.2.1 bt103.2.2).bind fun t110 => (some t110))) = some r := h
 clear h
 replace H := Option.bind_eq_some_iff.mp H
 obtain ⟨⟨t103, t104, t107⟩, A30, H⟩ := H
 try dsimp only at H
 have A3 := Aside0.mk A30
 clear A30
 replace H := Option.bind_eq_some_iff.mp H
 obtain ⟨t110, A40, H⟩ := H
 try dsimp only at H
 have A4 := Aside0.mk A40
 clear A40
 obtain rfl := Option.some.inj H
 go_enter Tryd.func88, Tryd.ntmps88
 go_wp2_with (first | ((with_reducible refine gate_dst (N := 2) rfl ?_); refine box_event ?hg (N := 2) ?hd (cs := #[.bool a0_0, .slice A0_1 l0_1.length c0_1, .slice A0_2 l0_2.length c0_2]) (t := 103) ?hr ?_; (case hd => rfl); (case hg => rfl); (case hr => first | (go_simp; done) | (go_simp; rfl)); intro gb101 hg w5 hbox hb; have BK101 := Aside0.mk (hbox); have GW101 := Aside0.mk ((by rw [hg]; exact (below_size tB) : w.heap.size ≤ gb101)); have GE101 := Aside0.mk ((by rw [hg]; exact (below_size tB) : w.heap.size ≤ gb101)); replace HB := Aside0.mk (below_step tB hb); clear hb hbox hg) | ((with_reducible refine gate_dst (N := 3) rfl ?_); refine box_event ?hg (N := 3) ?hd (cs := #[.bool a1_0, .slice A1_1 l1_1.length c1_1, .slice A1_2 l1_2.length c1_2]) (t := 103) ?hr ?_; (case hd => rfl); (case hg => rfl); (case hr => first | (go_simp; done) | (go_simp; rfl)); intro gb102 hg w6 hbox hb; have BK102 := Aside0.mk (hbox); have GW102 := Aside0.mk ((by rw [hg]; exact (below_size tG) : w.heap.size ≤ gb102)); have GE102 := Aside0.mk ((by rw [hg]; exact (below_size tG) : w.heap.size ≤ gb102)); replace HB := Aside0.mk (below_step tG hb); have NB101_102 := Aside0.mk ((by rw [hg]; exact Nat.ne_of_lt (blk_lt (g := gb101) (tK BK101.out)) : gb101 ≠ gb102)); have NB102_101 := Aside0.mk ((by rw [hg]; exact Nat.ne_of_gt (blk_lt (g := gb101) (tK BK101.out)) : gb102 ≠ gb101)); replace BK101 := Aside0.mk (blk_below (g := gb101) (tK BK101.out) hb); clear hb hbox hg; have hnb7 := NB101_102.out; have hnc7 := NB102_101.out; have hcz8_0 : w6.cell? ⟨gb101, 0, none⟩ = some (.bool a0_0) := (blk_cell BK101.out 0).trans rfl; have hcz8_1 : w6.cell? ⟨gb101, 1, none⟩ = some (.slice A0_1 l0_1.length c0_1) := (blk_cell BK101.out 1).trans rfl; have hcz8_2 : w6.cell? ⟨gb101, 2, none⟩ = some (.slice A0_2 l0_2.length c0_2) := (blk_cell BK101.out 2).trans rfl; have hfz8_0 := blk_frozen BK101.out 0; have hfz8_1 := blk_frozen BK101.out 1; have hfz8_2 := blk_frozen BK101.out 2; have hcz9_0 : w6.cell? ⟨gb102, 0, none⟩ = some (.bool a1_0) := (blk_cell BK102.out 0).trans rfl; have hcz9_1 : w6.cell? ⟨gb102, 1, none⟩ = some (.slice A1_1 l1_1.length c1_1) := (blk_cell BK102.out 1).trans rfl; have hcz9_2 : w6.cell? ⟨gb102, 2, none⟩ = some (.slice A1_2 l1_2.length c1_2) := (blk_cell BK102.out 2).trans rfl; have hfz9_0 := blk_frozen BK102.out 0; have hfz9_1 := blk_frozen BK102.out 1; have hfz9_2 := blk_frozen BK102.out 2) | ((with_reducible refine gate_callee (f := 136) rfl ?_); refine goesL_ (some 7) rfl rfl Tryd.func136 (by kernel_rfl) rfl #[.agg #[.bool a0_0, .slice A0_1 l0_1.length c0_1, .slice A0_2 l0_2.length c0_2], .agg #[.bool a1_0, .slice A1_1 l1_1.length c1_1, .slice A1_2 l1_2.length c1_2]] rfl tL ?_; (with_reducible refine (earshotref01_Sub.calls k a0_0 _ _ l0_1 _ _ l0_2 a1_0 _ _ l1_1 _ _ l1_2 t103 t104 t107 _ ?side1 ?side2 ?side3 ?side4 ?side5 ?side6 ?side7 ?side8 A3.out).mono ?_); (case side1 => exact tC (Kd.C_below HR0_1.out HB.out)); (case side2 => exact HC0_1.out); (case side3 => exact tC (Kd.C_below HR0_2.out HB.out)); (case side4 => exact HC0_2.out); (case side5 => exact tC (Kd.C_below HR1_1.out HB.out)); (case side6 => exact HC1_1.out); (case side7 => exact tC (Kd.C_below HR1_2.out HB.out)); (case side8 => exact HC1_2.out); rintro e w10 ⟨v105, v108, rfl, ho0, ho1, hb⟩; refine ⟨_, rfl, ?_⟩; have HO106 := Aside0.mk (Kd.R_lower ho0 (below_size tG)); have HO109 := Aside0.mk (Kd.R_lower ho1 (below_size tG)); replace BK101 := Aside0.mk (blk_below (g := gb101) (tK BK101.out) hb); replace BK102 := Aside0.mk (blk_below (g := gb102) (tK BK102.out) hb); replace HB := Aside0.mk (below_step tG hb); (try clear hb); (try clear hb2); (try clear hk); (try clear hi); (try clear ho0); (try clear ho1); obtain ⟨Ao11, co11, eo11⟩ := Kd.R_slice HO106.out; subst eo11; obtain ⟨Ao12, co12, eo12⟩ := Kd.R_slice HO109.out; subst eo12) | ((with_reducible refine gate_callee (f := 135) rfl ?_); refine goesL_ (some 8) rfl rfl Tryd.func135 (by kernel_rfl) rfl #[.agg #[.bool t103, .slice Ao11 t104.length co11, .slice Ao12 t107.length co12]] rfl tL ?_; (with_reducible refine (earshotref01_Sign.calls k t103 _ _ t104 _ _ t107 t110 _ ?side1 ?side2 ?side3 ?side4 A4.out).mono ?_); (case side1 => exact tC (Kd.R_reads' HO106.out).2.2); (case side2 => exact (Kd.R_reads' HO106.out).2.1); (case side3 => exact tC (Kd.R_reads' HO109.out).2.2); (case side4 => exact (Kd.R_reads' HO109.out).2.1); rintro e w13 ⟨rfl, hb⟩; refine ⟨_, rfl, ?_⟩; replace HO106 := Aside0.mk (Kd.R_below (tR HO106.out) hb); replace HO109 := Aside0.mk (Kd.R_below (tR HO109.out) hb); replace BK101 := Aside0.mk (blk_below (g := gb101) (tK BK101.out) hb); replace BK102 := Aside0.mk (blk_below (g := gb102) (tK BK102.out) hb); replace HB := Aside0.mk (below_step tG hb); (try clear hb); (try clear hb2); (try clear hk); (try clear hi)))
 go_ret
 exact ⟨by first | rfl | (simp [errW_none, errW_some] <;> rfl) | (simp [*, errW_none, errW_some] <;> rfl), tG⟩

/-! ### earshotref03_Log: function 31 -/
mutual
def earshotref03_Log.l0 : Nat → Int → Int → Bool → List Int → List Int → Option (Int)
 | 0, _, _, _, _, _ => none
 | k + 1, x0, x4, x109000, x109001, x109002 => if x4 < 16 then ((earshotref01_Of.f k x0).bind fun bt109 => ((earshotref01_Mul.f k x109000 x109001 x109002 bt109.1 bt109.2.1 bt109.2.2).bind fun bt116 => (earshotref03_Log.l0 k x0 (wrap64 (x4 + 1)) bt116.1 bt116.2.1 bt116.2.2))) else ((earshotref01_Of.f k 1).bind fun bt123 => (earshotref03_Log.l1 k 0 x109000 x109001 x109002 bt123.1 bt123.2.1 bt123.2.2))
def earshotref03_Log.l1 : Nat → Int → Bool → List Int → List Int → Bool → List Int → List Int → Option (Int)
 | 0, _, _, _, _, _, _, _ => none
 | k + 1, x6, x109000, x109001, x109002, x131000, x131001, x131002 => (earshotref01_Of.f k 2).bind fun bt131 => ((earshotref01_Mul.f k x131000 x131001 x131002 bt131.1 bt131.2.1 bt131.2.2).bind fun bt138 => ((earshotref01_Cmp.f k bt138.1 bt138.2.1 bt138.2.2 x109000 x109001 x109002).bind fun t145 => (if t145 ≤ 0 then ((earshotref01_Of.f k 2).bind fun bt146 => ((earshotref01_Mul.f k x131000 x131001 x131002 bt146.1 bt146.2.1 bt146.2.2).bind fun bt153 => (earshotref03_Log.l1 k (wrap64 (x6 + 1)) x109000 x109001 x109002 bt153.1 bt153.2.1 bt153.2.2))) else (some x6))))
end
def earshotref03_Log.f (k : Nat) (a0 : Int) : Option (Int) := if a0 = 0 then (some (-16)) else ((earshotref01_Of.f k 1).bind fun bt101 => (earshotref03_Log.l0 k a0 0 bt101.1 bt101.2.1 bt101.2.2))
theorem earshotref03_Log.mono_l : ∀ k, (∀ y0 y1 y2 y3 y4, LeO (earshotref03_Log.l0 k y0 y1 y2 y3 y4) (earshotref03_Log.l0 (k + 1) y0 y1 y2 y3 y4)) ∧ (∀ y0 y1 y2 y3 y4 y5 y6, LeO (earshotref03_Log.l1 k y0 y1 y2 y3 y4 y5 y6) (earshotref03_Log.l1 (k + 1) y0 y1 y2 y3 y4 y5 y6))
 | 0 => ⟨fun _ _ _ _ _ r h => by simp [earshotref03_Log.l0] at h, fun _ _ _ _ _ _ _ r h => by simp [earshotref03_Log.l1] at h⟩
 | k + 1 => by
  obtain ⟨ih0, ih1⟩ := earshotref03_Log.mono_l k
  refine ⟨?_, ?_⟩
  ·intro y0 y1 y2 y3 y4
   unfold earshotref03_Log.l0
   repeat' first
   | (with_reducible exact ih0 _ _ _ _ _)
   | (with_reducible exact ih1 _ _ _ _ _ _ _)
   | (with_reducible exact earshotref01_Cmp.mono _ _ _ _ _ _ _)
   | (with_reducible exact earshotref01_Mul.mono _ _ _ _ _ _ _)
   | (with_reducible exact earshotref01_Of.mono _ _)
   | (with_reducible exact LeO.refl _)
   | (with_reducible exact LeO.none _)
   | (with_reducible refine LeO.ite ?_ ?_)
   | (with_reducible refine LeO.bind ?_ (fun _ => ?_))
   | exact ih0 _ _ _ _ _
   | exact ih1 _ _ _ _ _ _ _
   | exact earshotref01_Cmp.mono _ _ _ _ _ _ _
   | exact earshotref01_Mul.mono _ _ _ _ _ _ _
   | exact earshotref01_Of.mono _ _
   | exact LeO.none _
   | refine LeO.ite ?_ ?_
   | refine LeO.bind ?_ (fun _ => ?_)
  ·intro y0 y1 y2 y3 y4 y5 y6
   unfold earshotref03_Log.l1
   repeat' first
   | (with_reducible exact ih0 _ _ _ _ _)
   | (with_reducible exact ih1 _ _ _ _ _ _ _)
   | (with_reducible exact earshotref01_Cmp.mono _ _ _ _ _ _ _)
   | (with_reducible exact earshotref01_Mul.mono _ _ _ _ _ _ _)
   | (with_reducible exact earshotref01_Of.mono _ _)
   | (with_reducible exact LeO.refl _)
   | (with_reducible exact LeO.none _)
   | (with_reducible refine LeO.ite ?_ ?_)
   | (with_reducible refine LeO.bind ?_ (fun _ => ?_))
   | exact ih0 _ _ _ _ _
   | exact ih1 _ _ _ _ _ _ _
   | exact earshotref01_Cmp.mono _ _ _ _ _ _ _
   | exact earshotref01_Mul.mono _ _ _ _ _ _ _
   | exact earshotref01_Of.mono _ _
   | exact LeO.none _
   | refine LeO.ite ?_ ?_
   | refine LeO.bind ?_ (fun _ => ?_)
theorem earshotref03_Log.mono : ∀ a0 k, LeO (earshotref03_Log.f k a0) (earshotref03_Log.f (k + 1) a0) := by
 intro a0 k
 obtain ⟨ih0, ih1⟩ := earshotref03_Log.mono_l k
 unfold earshotref03_Log.f
 repeat' first
   | (with_reducible exact ih0 _ _ _ _ _)
   | (with_reducible exact ih1 _ _ _ _ _ _ _)
   | (with_reducible exact earshotref01_Cmp.mono _ _ _ _ _ _ _)
   | (with_reducible exact earshotref01_Mul.mono _ _ _ _ _ _ _)
   | (with_reducible exact earshotref01_Of.mono _ _)
   | (with_reducible exact LeO.refl _)
   | (with_reducible exact LeO.none _)
   | (with_reducible refine LeO.ite ?_ ?_)
   | (with_reducible refine LeO.bind ?_ (fun _ => ?_))
   | exact ih0 _ _ _ _ _
   | exact ih1 _ _ _ _ _ _ _
   | exact earshotref01_Cmp.mono _ _ _ _ _ _ _
   | exact earshotref01_Mul.mono _ _ _ _ _ _ _
   | exact earshotref01_Of.mono _ _
   | exact LeO.none _
   | refine LeO.ite ?_ ?_
   | refine LeO.bind ?_ (fun _ => ?_)
set_option maxHeartbeats 8000000 in
set_option maxRecDepth 100000 in
theorem earshotref03_Log.calls (k : Nat) (a0 : Int) (r : Int) (w : World) (h : earshotref03_Log.f k a0 = some r) :
  Calls Tryd.prog 31 #[.int .i64 a0] w fun e w' => e = .returned (.int .i64 r) ∧ Below w.heap.size w w' := by
 have hu103 := Tryd.underlying103
 have HB := Aside0.mk (Below.refl w.heap.size w)
 have H : (if a0 = 0 then (some (-16)) else ((earshotref01_Of.f k 1).bind fun bt101 => (earshotref03_Log.l0 k a0 0 bt101.1 bt101.2.1 bt101.2.2))) = some r := h
 clear h
 by_cases c2 : a0 = 0
 ·rw [if_pos c2] at H
  have c2b0 : (a0 == 0) = true := beq_iff_eq.mpr c2
  have c2b1 : (a0 != 0) = false := bne_eq_false_iff_eq.mpr c2
  clear c2
  obtain rfl := Option.some.inj H
  go_enter Tryd.func31, Tryd.ntmps31
  go_wp2
  go_ret
  exact ⟨by first | rfl | (simp [errW_none, errW_some] <;> rfl) | (simp [*, errW_none, errW_some] <;> rfl), tB⟩
 ·rw [if_neg c2] at H
  have c2b0 : (a0 == 0) = false := beq_eq_false_iff_ne.mpr c2
  have c2b1 : (a0 != 0) = true := bne_iff_ne.mpr c2
  replace H := Option.bind_eq_some_iff.mp H
  obtain ⟨⟨t101, t102, t105⟩, A30, H⟩ := H
  try dsimp only at H
  have A3 := Aside0.mk A30
  clear A30
  have H' := Aside0.mk H
  clear H
  go_enter Tryd.func31, Tryd.ntmps31
  go_wp2_with (first | ((with_reducible refine gate_callee (f := 86) rfl ?_); refine goesL_ (some 9) rfl rfl Tryd.func86 (by kernel_rfl) rfl #[.int .i64 1] rfl tL ?_; (with_reducible refine (earshotref01_Of.calls k 1 t101 t102 t105 _ A3.out).mono ?_); rintro e w4 ⟨v103, v106, rfl, ho0, ho1, hb⟩; refine ⟨_, rfl, ?_⟩; have HO104 := Aside0.mk (Kd.R_lower ho0 (below_size tB)); have HO107 := Aside0.mk (Kd.R_lower ho1 (below_size tB)); replace HB := Aside0.mk (below_step tB hb); (try clear hb); (try clear hb2); (try clear hk); (try clear hi); (try clear ho0); (try clear ho1)) | ((with_reducible refine gate_dst (N := 3) rfl ?_); refine box_event ?hg (N := 3) ?hd (cs := #[.bool false, .slice none 0 0, .slice none 0 0]) (t := 103) ?hr ?_; (case hd => rfl); (case hg => rfl); (case hr => first | (go_simp; done) | (go_simp; rfl)); intro gb108 hg w5 hbox hb; replace HO104 := Aside0.mk (Kd.R_below (tR HO104.out) hb); replace HO107 := Aside0.mk (Kd.R_below (tR HO107.out) hb); have BK108 := Aside0.mk (hbox); have GW108 := Aside0.mk ((by rw [hg]; exact (below_size tB) : w.heap.size ≤ gb108)); have GE108 := Aside0.mk ((by rw [hg]; exact (below_size tB) : w.heap.size ≤ gb108)); replace HB := Aside0.mk (below_step tB hb); clear hb hbox hg; have hcz6_0 : w5.cell? ⟨gb108, 0, none⟩ = some (.bool false) := (blk_cell BK108.out 0).trans rfl; have hcz6_1 : w5.cell? ⟨gb108, 1, none⟩ = some (.slice none 0 0) := (blk_cell BK108.out 1).trans rfl; have hcz6_2 : w5.cell? ⟨gb108, 2, none⟩ = some (.slice none 0 0) := (blk_cell BK108.out 2).trans rfl; have hfz6_0 := blk_frozen BK108.out 0; have hfz6_1 := blk_frozen BK108.out 1; have hfz6_2 := blk_frozen BK108.out 2; obtain ⟨Ao7, co7, eo7⟩ := Kd.R_slice HO104.out; subst eo7; obtain ⟨Ao8, co8, eo8⟩ := Kd.R_slice HO107.out; subst eo8))
  go_loopg [4] k (fun kq v4 w' => ∃ (x4_1 : Int) (x109000_1 : Bool) (x109001_1 : List Int) (x109002_1 : List Int) (u109001 : Value) (u109002 : Value), v4 = .int .i64 x4_1 ∧ Aside0 (earshotref03_Log.l0 kq a0 x4_1 x109000_1 x109001_1 x109002_1 = some r) ∧ Aside0 (kq ≤ k) ∧ Aside0 (Kd.R (Kd.int .u32) 118 w' w.heap.size (fun k_ => some k_ ≠ (u109002 : Value).ownBlock) u109001 x109001_1) ∧ Aside0 (Kd.R (Kd.int .u32) 118 w' w.heap.size (fun k_ => some k_ ≠ (u109001 : Value).ownBlock) u109002 x109002_1) ∧ Aside0 (w'.heap[gb108]? = some (.cells #[.bool x109000_1, u109001, u109002] 103 (0, 0))) ∧ Aside0 (Below w.heap.size w w'))
  case atStart => exact ⟨(0), (t101), (t102), (t105), (.slice Ao7 t102.length co7), (.slice Ao8 t105.length co8), (by first | rfl | (simp; done) | (simp only [i64_w]; done) | (simp [*]; done)), H', ⟨Nat.le_refl _⟩, ⟨by (with_reducible repeat (first | apply Kd.R_alloc | apply Kd.R_drewN | apply Kd.R_drew)); exact Kd.R_mono (Kd.R_far (p := ⟨gb108, 2, none⟩) (Kd.R_far (p := ⟨gb108, 1, none⟩) (Kd.R_far (p := ⟨gb108, 0, none⟩) (Kd.R_types HO104.out BK108.out (by decide)) (fun _ hk => hk.2) (.bool t101)) (fun _ hk => hk.2) (.slice Ao7 t102.length co7)) (fun _ hk => hk.2) (.slice Ao8 t105.length co8)) (fun _ hk => hk.1)⟩, ⟨by (with_reducible repeat (first | apply Kd.R_alloc | apply Kd.R_drewN | apply Kd.R_drew)); exact Kd.R_mono (Kd.R_far (p := ⟨gb108, 2, none⟩) (Kd.R_far (p := ⟨gb108, 1, none⟩) (Kd.R_far (p := ⟨gb108, 0, none⟩) (Kd.R_types HO107.out BK108.out (by decide)) (fun _ hk => hk.2) (.bool t101)) (fun _ hk => hk.2) (.slice Ao7 t102.length co7)) (fun _ hk => hk.2) (.slice Ao8 t105.length co8)) (fun _ hk => hk.1)⟩, ⟨by (with_reducible repeat (first | refine blk_drewN ?_ _ | refine blk_drew ?_ | refine blk_alloc ?_ _)); refine blk_put (cs := #[.bool t101, .slice Ao7 t102.length co7, .slice none 0 0]) ?_ 2 _ rfl; (with_reducible repeat (first | refine blk_drewN ?_ _ | refine blk_drew ?_ | refine blk_alloc ?_ _)); refine blk_put (cs := #[.bool t101, .slice none 0 0, .slice none 0 0]) ?_ 1 _ rfl; (with_reducible repeat (first | refine blk_drewN ?_ _ | refine blk_drew ?_ | refine blk_alloc ?_ _)); refine blk_put (cs := #[.bool false, .slice none 0 0, .slice none 0 0]) ?_ 0 _ rfl; exact tK BK108.out⟩, ⟨tG⟩⟩
  case round =>
   clear H'
   try clear c2
   try clear c2b0
   try clear c2b1
   try clear p2
   try clear c3
   try clear c8
   try clear hcz6_0
   try clear hcz6_1
   try clear hcz6_2
   try clear hfz6_0
   try clear hfz6_1
   try clear hfz6_2
   obtain ⟨x4_1, x109000_1, x109001_1, x109002_1, u109001, u109002, rfl, HA, HK1, HO_109001, HO_109002, BK108, HB⟩ := hrel
   cases gk with
   | zero => exact absurd HA.out (by simp [earshotref03_Log.l0])
   | succ k1 =>
    have H := HA.out
    clear HA
    simp only [earshotref03_Log.l0] at H
    by_cases c9 : x4_1 < 16
    ·rw [if_pos c9] at H
     have c9b0 := decide_eq_true c9
     clear c9
     replace H := Option.bind_eq_some_iff.mp H
     obtain ⟨⟨t109, t110, t113⟩, A100, H⟩ := H
     try dsimp only at H
     have A10 := Aside0.mk A100
     clear A100
     replace H := Option.bind_eq_some_iff.mp H
     obtain ⟨⟨t116, t117, t120⟩, A110, H⟩ := H
     try dsimp only at H
     have A11 := Aside0.mk A110
     clear A110
     have H' := Aside0.mk H
     clear H
     try go_wp2
     replace HO_109001 := Aside0.mk (Kd.R_drew HO_109001.out)
     replace HO_109002 := Aside0.mk (Kd.R_drew HO_109002.out)
     replace BK108 := Aside0.mk (blk_drew BK108.out)
     replace HB := Aside0.mk (below_drew1 HB.out)
     refine start_ (n := 5) (S := fun w' => w'.cell? ⟨gb108, 0, none⟩ = some (.bool x109000_1) ∧ w'.cell? ⟨gb108, 1, none⟩ = some (u109001) ∧ w'.cell? ⟨gb108, 2, none⟩ = some (u109002)) (ds := [4]) (bm 0 5) (by kernel_rfl) rfl rfl ⟨(blk_cell BK108.out 0).trans rfl, (blk_cell BK108.out 1).trans rfl, (blk_cell BK108.out 2).trans rfl⟩ (fun hHeld => ?_)
     generalize wr.drew = w12 at HO_109001 HO_109002 BK108 HB hHeld ⊢
     refine pure_ (i := 1) (N := some 15) (v := ?_) (a' := ?_) (bq 2 5) rfl rfl (by kernel_rfl) (fun _ _ _ h => h) (Or.inl ⟨by rfl, ?_⟩) ?_ ?_
     rotate_left
     ·intro w'
      go_simp
      with_reducible rfl
     rotate_left
     ·simp only [Act.put, List.setIfInBounds_toArray, List.set_cons_zero, List.set_cons_succ, i64_w, i32_w]
      rfl
     refine take_ (i := 0) (N := some 14) (v := ?_) (a' := ?_) (bm 2 5) rfl rfl (by kernel_rfl) (fun _ _ _ h => h) (Or.inl ⟨by rfl, ?_⟩) hHeld ?_ ?_
     rotate_left
     ·rintro w' ⟨s0, s1, s2⟩
      go_simp
      with_reducible rfl
     rotate_left
     ·simp only [Act.put, List.setIfInBounds_toArray, List.set_cons_zero, List.set_cons_succ, i64_w, i32_w]
      rfl
     refine one_ (i := 2) (N := some 16) (bm 3 5) rfl rfl (by kernel_rfl) (by decide) (fun K hK => ?_)
     refine goes_ Tryd.func86 (by kernel_rfl) rfl #[.int .i64 a0] (by rfl) rfl rfl tL ?_
     with_reducible refine (earshotref01_Of.calls k1 a0 t109 t110 t113 _ A10.out).mono ?_
     rintro e w13 ⟨v111, v114, rfl, ho0, ho1, hb⟩
     refine ⟨_, rfl, ?_⟩
     have HO112 := Aside0.mk (Kd.R_lower (Kd.R_new' (Kd.R_new' ho0 (Kd.R_lt (tR HO_109001.out))) (Kd.R_lt (tR HO_109002.out))) (below_size tG))
     have HO115 := Aside0.mk (Kd.R_lower (Kd.R_new' (Kd.R_new' ho1 (Kd.R_lt (tR HO_109001.out))) (Kd.R_lt (tR HO_109002.out))) (below_size tG))
     replace HO_109001 := Aside0.mk (Kd.R_mono (Kd.R_told (Kd.R_told (Kd.R_old (tR HO_109001.out) hb) (Kd.R_base ho0)) (Kd.R_base ho1)) (fun _ h_ => h_.1))
     replace HO_109002 := Aside0.mk (Kd.R_mono (Kd.R_told (Kd.R_told (Kd.R_old (tR HO_109002.out) hb) (Kd.R_base ho0)) (Kd.R_base ho1)) (fun _ h_ => h_.1))
     replace BK108 := Aside0.mk (blk_below (g := gb108) (tK BK108.out) hb)
     replace HB := Aside0.mk (below_step tG hb)
     (try clear hb)
     (try clear hb2)
     (try clear hk)
     (try clear hi)
     (try clear ho0)
     (try clear ho1)
     obtain ⟨Ao14, co14, eo14⟩ := Kd.R_slice HO_109001.out
     (first | subst eo14 | (injection eo14 with f1_ f2_ f3_; have f4_ := f1_.symm; have f5_ := f3_.symm; clear f1_ f2_ f3_; subst f4_; subst f5_))
     obtain ⟨Ao15, co15, eo15⟩ := Kd.R_slice HO_109002.out
     (first | subst eo15 | (injection eo15 with f1_ f2_ f3_; have f4_ := f1_.symm; have f5_ := f3_.symm; clear f1_ f2_ f3_; subst f4_; subst f5_))
     obtain ⟨Ao16, co16, eo16⟩ := Kd.R_slice HO112.out
     (first | subst eo16 | (injection eo16 with f1_ f2_ f3_; have f4_ := f1_.symm; have f5_ := f3_.symm; clear f1_ f2_ f3_; subst f4_; subst f5_))
     obtain ⟨Ao17, co17, eo17⟩ := Kd.R_slice HO115.out
     (first | subst eo17 | (injection eo17 with f1_ f2_ f3_; have f4_ := f1_.symm; have f5_ := f3_.symm; clear f1_ f2_ f3_; subst f4_; subst f5_))
     refine hK.out _ _ ⟨(blk_cell BK108.out 0).trans rfl, (blk_cell BK108.out 1).trans rfl, (blk_cell BK108.out 2).trans rfl⟩ (fun hHeld => ?_)
     clear hK K
     refine nm ?_
     refine one_ (i := 3) (N := some 17) (bm 4 5) rfl rfl (by kernel_rfl) (by decide) (fun K hK => ?_)
     refine goes_ Tryd.func87 (by kernel_rfl) rfl #[.agg #[.bool x109000_1, .slice Ao14 x109001_1.length co14, .slice Ao15 x109002_1.length co15], .agg #[.bool t109, .slice Ao16 t110.length co16, .slice Ao17 t113.length co17]] (by rfl) rfl rfl tL ?_
     with_reducible refine (earshotref01_Mul.calls k1 x109000_1 _ _ x109001_1 _ _ x109002_1 t109 _ _ t110 _ _ t113 t116 t117 t120 _ ?side1 ?side2 ?side3 ?side4 ?side5 ?side6 ?side7 ?side8 A11.out).mono ?_
     (case side1 => exact tC (Kd.R_reads' HO_109001.out).2.2)
     (case side2 => exact (Kd.R_reads' HO_109001.out).2.1)
     (case side3 => exact tC (Kd.R_reads' HO_109002.out).2.2)
     (case side4 => exact (Kd.R_reads' HO_109002.out).2.1)
     (case side5 => exact tC (Kd.R_reads' HO112.out).2.2)
     (case side6 => exact (Kd.R_reads' HO112.out).2.1)
     (case side7 => exact tC (Kd.R_reads' HO115.out).2.2)
     (case side8 => exact (Kd.R_reads' HO115.out).2.1)
     rintro e w18 ⟨v118, v121, rfl, ho0, ho1, hb⟩
     refine ⟨_, rfl, ?_⟩
     have HO119 := Aside0.mk (Kd.R_lower (Kd.R_new' (Kd.R_new' (Kd.R_new' (Kd.R_new' ho0 (Kd.R_lt (tR HO_109001.out))) (Kd.R_lt (tR HO_109002.out))) (Kd.R_lt (tR HO112.out))) (Kd.R_lt (tR HO115.out))) (below_size tG))
     have HO122 := Aside0.mk (Kd.R_lower (Kd.R_new' (Kd.R_new' (Kd.R_new' (Kd.R_new' ho1 (Kd.R_lt (tR HO_109001.out))) (Kd.R_lt (tR HO_109002.out))) (Kd.R_lt (tR HO112.out))) (Kd.R_lt (tR HO115.out))) (below_size tG))
     replace HO_109001 := Aside0.mk (Kd.R_mono (Kd.R_told (Kd.R_told (Kd.R_old (tR HO_109001.out) hb) (Kd.R_base ho0)) (Kd.R_base ho1)) (fun _ h_ => h_.1))
     replace HO_109002 := Aside0.mk (Kd.R_mono (Kd.R_told (Kd.R_told (Kd.R_old (tR HO_109002.out) hb) (Kd.R_base ho0)) (Kd.R_base ho1)) (fun _ h_ => h_.1))
     replace HO112 := Aside0.mk (Kd.R_mono (Kd.R_told (Kd.R_told (Kd.R_old (tR HO112.out) hb) (Kd.R_base ho0)) (Kd.R_base ho1)) (fun _ h_ => h_.1))
     replace HO115 := Aside0.mk (Kd.R_mono (Kd.R_told (Kd.R_told (Kd.R_old (tR HO115.out) hb) (Kd.R_base ho0)) (Kd.R_base ho1)) (fun _ h_ => h_.1))
     replace BK108 := Aside0.mk (blk_below (g := gb108) (tK BK108.out) hb)
     replace HB := Aside0.mk (below_step tG hb)
     (try clear hb)
     (try clear hb2)
     (try clear hk)
     (try clear hi)
     (try clear ho0)
     (try clear ho1)
     obtain ⟨Ao20, co20, eo20⟩ := Kd.R_slice HO119.out
     (first | subst eo20 | (injection eo20 with f1_ f2_ f3_; have f4_ := f1_.symm; have f5_ := f3_.symm; clear f1_ f2_ f3_; subst f4_; subst f5_))
     obtain ⟨Ao22, co22, eo22⟩ := Kd.R_slice HO122.out
     (first | subst eo22 | (injection eo22 with f1_ f2_ f3_; have f4_ := f1_.symm; have f5_ := f3_.symm; clear f1_ f2_ f3_; subst f4_; subst f5_))
     refine hK.out _ _ ⟨(blk_cell BK108.out 0).trans rfl, (blk_cell BK108.out 1).trans rfl, (blk_cell BK108.out 2).trans rfl⟩ (fun hHeld => ?_)
     clear hK K
     refine nm ?_
     refine last_ (i := 4) (N := none) (bm 5 5) rfl rfl (by kernel_rfl) (by decide) (fun K hK => ?_)
     have hs19 : w18.cell? ⟨gb108, 0, none⟩ = some (.bool x109000_1) := (blk_cell BK108.out 0).trans rfl
     have hfs19 := blk_frozen BK108.out 0
     have hs21 : w18.cell? ⟨gb108, 1, none⟩ = some (.slice Ao14 x109001_1.length co14) := (blk_cell BK108.out 1).trans rfl
     have hfs21 := blk_frozen BK108.out 1
     have hs23 : w18.cell? ⟨gb108, 2, none⟩ = some (.slice Ao15 x109002_1.length co15) := (blk_cell BK108.out 2).trans rfl
     have hfs23 := blk_frozen BK108.out 2
     refine skip_ (w1 := ?_) (by rfl) rfl ?_ ?_
     rotate_left
     ·go_simp
      rfl
     refine hK.out _ _ ?_
     clear hK K
     refine done_ (by kernel_rfl) ?_
     try go_wp2
     go_roundg k1
     case measure => have := HK1.out; omega
     case rel => exact ⟨(wrap64 (x4_1 + 1)), (t116), (t117), (t120), (.slice Ao20 t117.length co20), (.slice Ao22 t120.length co22), (by first | rfl | (simp; done) | (simp only [i64_w]; done) | (simp [*]; done)), H', ⟨by have := HK1.out; omega⟩, ⟨by (with_reducible repeat (first | apply Kd.R_alloc | apply Kd.R_drewN | apply Kd.R_drew)); exact Kd.R_mono (Kd.R_far (p := ⟨gb108, 2, none⟩) (Kd.R_far (p := ⟨gb108, 1, none⟩) (Kd.R_far (p := ⟨gb108, 0, none⟩) (Kd.R_types HO119.out BK108.out (by decide)) (fun _ hk => hk.2) (.bool t116)) (fun _ hk => hk.2) (.slice Ao20 t117.length co20)) (fun _ hk => hk.2) (.slice Ao22 t120.length co22)) (fun _ hk => hk.1.1.1.1.1)⟩, ⟨by (with_reducible repeat (first | apply Kd.R_alloc | apply Kd.R_drewN | apply Kd.R_drew)); exact Kd.R_mono (Kd.R_far (p := ⟨gb108, 2, none⟩) (Kd.R_far (p := ⟨gb108, 1, none⟩) (Kd.R_far (p := ⟨gb108, 0, none⟩) (Kd.R_types HO122.out BK108.out (by decide)) (fun _ hk => hk.2) (.bool t116)) (fun _ hk => hk.2) (.slice Ao20 t117.length co20)) (fun _ hk => hk.2) (.slice Ao22 t120.length co22)) (fun _ hk => hk.1.1.1.1.1)⟩, ⟨by (with_reducible repeat (first | refine blk_drewN ?_ _ | refine blk_drew ?_ | refine blk_alloc ?_ _)); refine blk_put (cs := #[.bool t116, .slice Ao20 t117.length co20, .slice Ao15 x109002_1.length co15]) ?_ 2 _ rfl; (with_reducible repeat (first | refine blk_drewN ?_ _ | refine blk_drew ?_ | refine blk_alloc ?_ _)); refine blk_put (cs := #[.bool t116, .slice Ao14 x109001_1.length co14, .slice Ao15 x109002_1.length co15]) ?_ 1 _ rfl; (with_reducible repeat (first | refine blk_drewN ?_ _ | refine blk_drew ?_ | refine blk_alloc ?_ _)); refine blk_put (cs := #[.bool x109000_1, .slice Ao14 x109001_1.length co14, .slice Ao15 x109002_1.length co15]) ?_ 0 _ rfl; exact tK BK108.out⟩, ⟨tG⟩⟩
    ·rw [if_neg c9] at H
     have c9b0 := decide_eq_false c9
     clear c9
     replace H := Option.bind_eq_some_iff.mp H
     obtain ⟨⟨t123, t124, t127⟩, A240, H⟩ := H
     try dsimp only at H
     have A24 := Aside0.mk A240
     clear A240
     have H' := Aside0.mk H
     clear H
     go_wp2_with (first | ((with_reducible refine gate_callee (f := 86) rfl ?_); refine goesL_ (some 18) rfl rfl Tryd.func86 (by kernel_rfl) rfl #[.int .i64 1] rfl tL ?_; (with_reducible refine (earshotref01_Of.calls k1 1 t123 t124 t127 _ A24.out).mono ?_); rintro e w25 ⟨v125, v128, rfl, ho0, ho1, hb⟩; refine ⟨_, rfl, ?_⟩; have HO126 := Aside0.mk (Kd.R_lower (Kd.R_new' (Kd.R_new' ho0 (Kd.R_lt (tR HO_109001.out))) (Kd.R_lt (tR HO_109002.out))) (below_size tG)); have HO129 := Aside0.mk (Kd.R_lower (Kd.R_new' (Kd.R_new' ho1 (Kd.R_lt (tR HO_109001.out))) (Kd.R_lt (tR HO_109002.out))) (below_size tG)); replace HO_109001 := Aside0.mk (Kd.R_mono (Kd.R_told (Kd.R_told (Kd.R_old (tR HO_109001.out) hb) (Kd.R_base ho0)) (Kd.R_base ho1)) (fun _ h_ => h_.1)); replace HO_109002 := Aside0.mk (Kd.R_mono (Kd.R_told (Kd.R_told (Kd.R_old (tR HO_109002.out) hb) (Kd.R_base ho0)) (Kd.R_base ho1)) (fun _ h_ => h_.1)); replace BK108 := Aside0.mk (blk_below (g := gb108) (tK BK108.out) hb); replace HB := Aside0.mk (below_step tG hb); (try clear hb); (try clear hb2); (try clear hk); (try clear hi); (try clear ho0); (try clear ho1)) | ((with_reducible refine gate_dst (N := 5) rfl ?_); refine box_event ?hg (N := 5) ?hd (cs := #[.bool false, .slice none 0 0, .slice none 0 0]) (t := 103) ?hr ?_; (case hd => rfl); (case hg => rfl); (case hr => first | (go_simp; done) | (go_simp; rfl)); intro gb130 hg w26 hbox hb; replace HO_109001 := Aside0.mk (Kd.R_below (tR HO_109001.out) hb); replace HO_109002 := Aside0.mk (Kd.R_below (tR HO_109002.out) hb); replace HO126 := Aside0.mk (Kd.R_below (tR HO126.out) hb); replace HO129 := Aside0.mk (Kd.R_below (tR HO129.out) hb); have BK130 := Aside0.mk (hbox); have GW130 := Aside0.mk ((by rw [hg]; exact (below_size tG) : w.heap.size ≤ gb130)); have GE130 := Aside0.mk ((by rw [hg]; exact (below_size tG) : w.heap.size ≤ gb130)); replace HB := Aside0.mk (below_step tG hb); have NB108_130 := Aside0.mk ((by rw [hg]; exact Nat.ne_of_lt (blk_lt (g := gb108) (tK BK108.out)) : gb108 ≠ gb130)); have NB130_108 := Aside0.mk ((by rw [hg]; exact Nat.ne_of_gt (blk_lt (g := gb108) (tK BK108.out)) : gb130 ≠ gb108)); replace BK108 := Aside0.mk (blk_below (g := gb108) (tK BK108.out) hb); clear hb hbox hg; have hnb27 := NB130_108.out; have hnc27 := NB108_130.out; have hcz28_0 : w26.cell? ⟨gb130, 0, none⟩ = some (.bool false) := (blk_cell BK130.out 0).trans rfl; have hcz28_1 : w26.cell? ⟨gb130, 1, none⟩ = some (.slice none 0 0) := (blk_cell BK130.out 1).trans rfl; have hcz28_2 : w26.cell? ⟨gb130, 2, none⟩ = some (.slice none 0 0) := (blk_cell BK130.out 2).trans rfl; have hfz28_0 := blk_frozen BK130.out 0; have hfz28_1 := blk_frozen BK130.out 1; have hfz28_2 := blk_frozen BK130.out 2; obtain ⟨Ao29, co29, eo29⟩ := Kd.R_slice HO126.out; subst eo29; obtain ⟨Ao30, co30, eo30⟩ := Kd.R_slice HO129.out; subst eo30))
     go_loopg [6] k1 (fun kq v6 w' => ∃ (x6_2 : Int) (x131000_2 : Bool) (x131001_2 : List Int) (x131002_2 : List Int) (u131001 : Value) (u131002 : Value), v6 = .int .i64 x6_2 ∧ Aside0 (earshotref03_Log.l1 kq x6_2 x109000_1 x109001_1 x109002_1 x131000_2 x131001_2 x131002_2 = some r) ∧ Aside0 (kq ≤ k1) ∧ Aside0 (Kd.R (Kd.int .u32) 118 w' w.heap.size (fun k_ => some k_ ≠ (u109002 : Value).ownBlock ∧ some k_ ≠ (u131001 : Value).ownBlock ∧ some k_ ≠ (u131002 : Value).ownBlock) u109001 x109001_1) ∧ Aside0 (Kd.R (Kd.int .u32) 118 w' w.heap.size (fun k_ => some k_ ≠ (u109001 : Value).ownBlock ∧ some k_ ≠ (u131001 : Value).ownBlock ∧ some k_ ≠ (u131002 : Value).ownBlock) u109002 x109002_1) ∧ Aside0 (Kd.R (Kd.int .u32) 118 w' w.heap.size (fun k_ => some k_ ≠ (u109001 : Value).ownBlock ∧ some k_ ≠ (u109002 : Value).ownBlock ∧ some k_ ≠ (u131002 : Value).ownBlock) u131001 x131001_2) ∧ Aside0 (Kd.R (Kd.int .u32) 118 w' w.heap.size (fun k_ => some k_ ≠ (u109001 : Value).ownBlock ∧ some k_ ≠ (u109002 : Value).ownBlock ∧ some k_ ≠ (u131001 : Value).ownBlock) u131002 x131002_2) ∧ Aside0 (w'.heap[gb108]? = some (.cells #[.bool x109000_1, u109001, u109002] 103 (0, 0))) ∧ Aside0 (w'.heap[gb130]? = some (.cells #[.bool x131000_2, u131001, u131002] 103 (0, 0))) ∧ Aside0 (Below w.heap.size w w'))
     case atStart => exact ⟨(0), (t123), (t124), (t127), (.slice Ao29 t124.length co29), (.slice Ao30 t127.length co30), (by first | rfl | (simp; done) | (simp only [i64_w]; done) | (simp [*]; done)), H', ⟨Nat.le_refl _⟩, ⟨by (with_reducible repeat (first | apply Kd.R_alloc | apply Kd.R_drewN | apply Kd.R_drew)); exact Kd.R_mono (Kd.R_far (p := ⟨gb130, 2, none⟩) (Kd.R_far (p := ⟨gb130, 1, none⟩) (Kd.R_far (p := ⟨gb130, 0, none⟩) (Kd.R_types HO_109001.out BK130.out (by decide)) (fun _ hk => hk.2) (.bool t123)) (fun _ hk => hk.2) (.slice Ao29 t124.length co29)) (fun _ hk => hk.2) (.slice Ao30 t127.length co30)) (fun _ hk => ⟨hk.1.1.1, ⟨hk.1.1.2, hk.1.2⟩⟩)⟩, ⟨by (with_reducible repeat (first | apply Kd.R_alloc | apply Kd.R_drewN | apply Kd.R_drew)); exact Kd.R_mono (Kd.R_far (p := ⟨gb130, 2, none⟩) (Kd.R_far (p := ⟨gb130, 1, none⟩) (Kd.R_far (p := ⟨gb130, 0, none⟩) (Kd.R_types HO_109002.out BK130.out (by decide)) (fun _ hk => hk.2) (.bool t123)) (fun _ hk => hk.2) (.slice Ao29 t124.length co29)) (fun _ hk => hk.2) (.slice Ao30 t127.length co30)) (fun _ hk => ⟨hk.1.1.1, ⟨hk.1.1.2, hk.1.2⟩⟩)⟩, ⟨by (with_reducible repeat (first | apply Kd.R_alloc | apply Kd.R_drewN | apply Kd.R_drew)); exact Kd.R_mono (Kd.R_far (p := ⟨gb130, 2, none⟩) (Kd.R_far (p := ⟨gb130, 1, none⟩) (Kd.R_far (p := ⟨gb130, 0, none⟩) (Kd.R_types HO126.out BK130.out (by decide)) (fun _ hk => hk.2) (.bool t123)) (fun _ hk => hk.2) (.slice Ao29 t124.length co29)) (fun _ hk => hk.2) (.slice Ao30 t127.length co30)) (fun _ hk => ⟨hk.1.1.2, ⟨hk.1.2, hk.1.1.1⟩⟩)⟩, ⟨by (with_reducible repeat (first | apply Kd.R_alloc | apply Kd.R_drewN | apply Kd.R_drew)); exact Kd.R_mono (Kd.R_far (p := ⟨gb130, 2, none⟩) (Kd.R_far (p := ⟨gb130, 1, none⟩) (Kd.R_far (p := ⟨gb130, 0, none⟩) (Kd.R_types HO129.out BK130.out (by decide)) (fun _ hk => hk.2) (.bool t123)) (fun _ hk => hk.2) (.slice Ao29 t124.length co29)) (fun _ hk => hk.2) (.slice Ao30 t127.length co30)) (fun _ hk => ⟨hk.1.1.2, ⟨hk.1.2, hk.1.1.1⟩⟩)⟩, ⟨by (with_reducible repeat (first | refine blk_drewN ?_ _ | refine blk_drew ?_ | refine blk_alloc ?_ _)); refine blk_far ?_ NB108_130.out _; (with_reducible repeat (first | refine blk_drewN ?_ _ | refine blk_drew ?_ | refine blk_alloc ?_ _)); refine blk_far ?_ NB108_130.out _; (with_reducible repeat (first | refine blk_drewN ?_ _ | refine blk_drew ?_ | refine blk_alloc ?_ _)); refine blk_far ?_ NB108_130.out _; exact tK BK108.out⟩, ⟨by (with_reducible repeat (first | refine blk_drewN ?_ _ | refine blk_drew ?_ | refine blk_alloc ?_ _)); refine blk_put (cs := #[.bool t123, .slice Ao29 t124.length co29, .slice none 0 0]) ?_ 2 _ rfl; (with_reducible repeat (first | refine blk_drewN ?_ _ | refine blk_drew ?_ | refine blk_alloc ?_ _)); refine blk_put (cs := #[.bool t123, .slice none 0 0, .slice none 0 0]) ?_ 1 _ rfl; (with_reducible repeat (first | refine blk_drewN ?_ _ | refine blk_drew ?_ | refine blk_alloc ?_ _)); refine blk_put (cs := #[.bool false, .slice none 0 0, .slice none 0 0]) ?_ 0 _ rfl; exact tK BK130.out⟩, ⟨tG⟩⟩
     case round =>
      clear H'
      try clear c2
      try clear c2b0
      try clear c2b1
      try clear p2
      try clear c3
      try clear p6
      try clear c8
      try clear c9
      try clear c9b0
      try clear c27
      try clear hcz28_0
      try clear hcz28_1
      try clear hcz28_2
      try clear hcz6_0
      try clear hcz6_1
      try clear hcz6_2
      try clear hfz28_0
      try clear hfz28_1
      try clear hfz28_2
      try clear hfz6_0
      try clear hfz6_1
      try clear hfz6_2
      try clear p2
      obtain ⟨x6_2, x131000_2, x131001_2, x131002_2, u131001, u131002, rfl, HA, HK2, HO_109001, HO_109002, HO_131001, HO_131002, BK108, BK130, HB⟩ := hrel
      cases gk with
      | zero => exact absurd HA.out (by simp [earshotref03_Log.l1])
      | succ k2 =>
       have H := HA.out
       clear HA
       simp only [earshotref03_Log.l1] at H
       replace H := Option.bind_eq_some_iff.mp H
       obtain ⟨⟨t131, t132, t135⟩, A310, H⟩ := H
       try dsimp only at H
       have A31 := Aside0.mk A310
       clear A310
       replace H := Option.bind_eq_some_iff.mp H
       obtain ⟨⟨t138, t139, t142⟩, A320, H⟩ := H
       try dsimp only at H
       have A32 := Aside0.mk A320
       clear A320
       replace H := Option.bind_eq_some_iff.mp H
       obtain ⟨t145, A330, H⟩ := H
       try dsimp only at H
       have A33 := Aside0.mk A330
       clear A330
       by_cases c34 : t145 ≤ 0
       ·rw [if_pos c34] at H
        have c34b0 := decide_eq_true c34
        clear c34
        replace H := Option.bind_eq_some_iff.mp H
        obtain ⟨⟨t146, t147, t150⟩, A350, H⟩ := H
        try dsimp only at H
        have A35 := Aside0.mk A350
        clear A350
        replace H := Option.bind_eq_some_iff.mp H
        obtain ⟨⟨t153, t154, t157⟩, A360, H⟩ := H
        try dsimp only at H
        have A36 := Aside0.mk A360
        clear A360
        have H' := Aside0.mk H
        clear H
        try go_wp2
        replace HO_109001 := Aside0.mk (Kd.R_drew HO_109001.out)
        replace HO_109002 := Aside0.mk (Kd.R_drew HO_109002.out)
        replace HO_131001 := Aside0.mk (Kd.R_drew HO_131001.out)
        replace HO_131002 := Aside0.mk (Kd.R_drew HO_131002.out)
        replace BK108 := Aside0.mk (blk_drew BK108.out)
        replace BK130 := Aside0.mk (blk_drew BK130.out)
        replace HB := Aside0.mk (below_drew1 HB.out)
        refine start_ (n := 6) (S := fun w' => w'.cell? ⟨gb130, 0, none⟩ = some (.bool x131000_2) ∧ w'.cell? ⟨gb130, 1, none⟩ = some (u131001) ∧ w'.cell? ⟨gb130, 2, none⟩ = some (u131002) ∧ w'.cell? ⟨gb108, 0, none⟩ = some (.bool x109000_1) ∧ w'.cell? ⟨gb108, 1, none⟩ = some (u109001) ∧ w'.cell? ⟨gb108, 2, none⟩ = some (u109002)) (ds := []) (bm 0 6) (by kernel_rfl) rfl rfl ⟨(blk_cell BK130.out 0).trans rfl, (blk_cell BK130.out 1).trans rfl, (blk_cell BK130.out 2).trans rfl, (blk_cell BK108.out 0).trans rfl, (blk_cell BK108.out 1).trans rfl, (blk_cell BK108.out 2).trans rfl⟩ (fun hHeld => ?_)
        generalize wr.drew = w37 at HO_109001 HO_109002 HO_131001 HO_131002 BK108 BK130 HB hHeld ⊢
        refine take_ (i := 0) (N := some 19) (v := ?_) (a' := ?_) (bm 1 6) rfl rfl (by kernel_rfl) (fun _ _ _ h => h) (Or.inl ⟨by rfl, ?_⟩) hHeld ?_ ?_
        rotate_left
        ·rintro w' ⟨s0, s1, s2, s3, s4, s5⟩
         go_simp
         with_reducible rfl
        rotate_left
        ·simp only [Act.put, List.setIfInBounds_toArray, List.set_cons_zero, List.set_cons_succ, i64_w, i32_w]
         rfl
        refine take_ (i := 3) (N := some 22) (v := ?_) (a' := ?_) (bq 9 6) rfl rfl (by kernel_rfl) (fun _ _ _ h => h) (Or.inl ⟨by rfl, ?_⟩) hHeld ?_ ?_
        rotate_left
        ·rintro w' ⟨s0, s1, s2, s3, s4, s5⟩
         go_simp
         with_reducible rfl
        rotate_left
        ·simp only [Act.put, List.setIfInBounds_toArray, List.set_cons_zero, List.set_cons_succ, i64_w, i32_w]
         rfl
        refine one_ (i := 1) (N := some 20) (bq 11 6) rfl rfl (by kernel_rfl) (by decide) (fun K hK => ?_)
        refine goes_ Tryd.func86 (by kernel_rfl) rfl #[.int .i64 2] (by rfl) rfl rfl tL ?_
        with_reducible refine (earshotref01_Of.calls k2 2 t131 t132 t135 _ A31.out).mono ?_
        rintro e w38 ⟨v133, v136, rfl, ho0, ho1, hb⟩
        refine ⟨_, rfl, ?_⟩
        have HO134 := Aside0.mk (Kd.R_lower (Kd.R_new' (Kd.R_new' (Kd.R_new' (Kd.R_new' ho0 (Kd.R_lt (tR HO_109001.out))) (Kd.R_lt (tR HO_109002.out))) (Kd.R_lt (tR HO_131001.out))) (Kd.R_lt (tR HO_131002.out))) (below_size tG))
        have HO137 := Aside0.mk (Kd.R_lower (Kd.R_new' (Kd.R_new' (Kd.R_new' (Kd.R_new' ho1 (Kd.R_lt (tR HO_109001.out))) (Kd.R_lt (tR HO_109002.out))) (Kd.R_lt (tR HO_131001.out))) (Kd.R_lt (tR HO_131002.out))) (below_size tG))
        replace HO_109001 := Aside0.mk (Kd.R_mono (Kd.R_told (Kd.R_told (Kd.R_old (tR HO_109001.out) hb) (Kd.R_base ho0)) (Kd.R_base ho1)) (fun _ h_ => h_.1))
        replace HO_109002 := Aside0.mk (Kd.R_mono (Kd.R_told (Kd.R_told (Kd.R_old (tR HO_109002.out) hb) (Kd.R_base ho0)) (Kd.R_base ho1)) (fun _ h_ => h_.1))
        replace HO_131001 := Aside0.mk (Kd.R_mono (Kd.R_told (Kd.R_told (Kd.R_old (tR HO_131001.out) hb) (Kd.R_base ho0)) (Kd.R_base ho1)) (fun _ h_ => h_.1))
        replace HO_131002 := Aside0.mk (Kd.R_mono (Kd.R_told (Kd.R_told (Kd.R_old (tR HO_131002.out) hb) (Kd.R_base ho0)) (Kd.R_base ho1)) (fun _ h_ => h_.1))
        replace BK108 := Aside0.mk (blk_below (g := gb108) (tK BK108.out) hb)
        replace BK130 := Aside0.mk (blk_below (g := gb130) (tK BK130.out) hb)
        replace HB := Aside0.mk (below_step tG hb)
        (try clear hb)
        (try clear hb2)
        (try clear hk)
        (try clear hi)
        (try clear ho0)
        (try clear ho1)
        obtain ⟨Ao39, co39, eo39⟩ := Kd.R_slice HO_131001.out
        (first | subst eo39 | (injection eo39 with f1_ f2_ f3_; have f4_ := f1_.symm; have f5_ := f3_.symm; clear f1_ f2_ f3_; subst f4_; subst f5_))
        obtain ⟨Ao40, co40, eo40⟩ := Kd.R_slice HO_131002.out
        (first | subst eo40 | (injection eo40 with f1_ f2_ f3_; have f4_ := f1_.symm; have f5_ := f3_.symm; clear f1_ f2_ f3_; subst f4_; subst f5_))
        obtain ⟨Ao41, co41, eo41⟩ := Kd.R_slice HO134.out
        (first | subst eo41 | (injection eo41 with f1_ f2_ f3_; have f4_ := f1_.symm; have f5_ := f3_.symm; clear f1_ f2_ f3_; subst f4_; subst f5_))
        obtain ⟨Ao42, co42, eo42⟩ := Kd.R_slice HO137.out
        (first | subst eo42 | (injection eo42 with f1_ f2_ f3_; have f4_ := f1_.symm; have f5_ := f3_.symm; clear f1_ f2_ f3_; subst f4_; subst f5_))
        refine hK.out _ _ ⟨(blk_cell BK130.out 0).trans rfl, (blk_cell BK130.out 1).trans rfl, (blk_cell BK130.out 2).trans rfl, (blk_cell BK108.out 0).trans rfl, (blk_cell BK108.out 1).trans rfl, (blk_cell BK108.out 2).trans rfl⟩ (fun hHeld => ?_)
        clear hK K
        refine nm ?_
        refine one_ (i := 2) (N := some 21) (bm 4 6) rfl rfl (by kernel_rfl) (by decide) (fun K hK => ?_)
        refine goes_ Tryd.func87 (by kernel_rfl) rfl #[.agg #[.bool x131000_2, .slice Ao39 x131001_2.length co39, .slice Ao40 x131002_2.length co40], .agg #[.bool t131, .slice Ao41 t132.length co41, .slice Ao42 t135.length co42]] (by rfl) rfl rfl tL ?_
        with_reducible refine (earshotref01_Mul.calls k2 x131000_2 _ _ x131001_2 _ _ x131002_2 t131 _ _ t132 _ _ t135 t138 t139 t142 _ ?side1 ?side2 ?side3 ?side4 ?side5 ?side6 ?side7 ?side8 A32.out).mono ?_
        (case side1 => exact tC (Kd.R_reads' HO_131001.out).2.2)
        (case side2 => exact (Kd.R_reads' HO_131001.out).2.1)
        (case side3 => exact tC (Kd.R_reads' HO_131002.out).2.2)
        (case side4 => exact (Kd.R_reads' HO_131002.out).2.1)
        (case side5 => exact tC (Kd.R_reads' HO134.out).2.2)
        (case side6 => exact (Kd.R_reads' HO134.out).2.1)
        (case side7 => exact tC (Kd.R_reads' HO137.out).2.2)
        (case side8 => exact (Kd.R_reads' HO137.out).2.1)
        rintro e w43 ⟨v140, v143, rfl, ho0, ho1, hb⟩
        refine ⟨_, rfl, ?_⟩
        have HO141 := Aside0.mk (Kd.R_lower (Kd.R_new' (Kd.R_new' (Kd.R_new' (Kd.R_new' (Kd.R_new' (Kd.R_new' ho0 (Kd.R_lt (tR HO_109001.out))) (Kd.R_lt (tR HO_109002.out))) (Kd.R_lt (tR HO_131001.out))) (Kd.R_lt (tR HO_131002.out))) (Kd.R_lt (tR HO134.out))) (Kd.R_lt (tR HO137.out))) (below_size tG))
        have HO144 := Aside0.mk (Kd.R_lower (Kd.R_new' (Kd.R_new' (Kd.R_new' (Kd.R_new' (Kd.R_new' (Kd.R_new' ho1 (Kd.R_lt (tR HO_109001.out))) (Kd.R_lt (tR HO_109002.out))) (Kd.R_lt (tR HO_131001.out))) (Kd.R_lt (tR HO_131002.out))) (Kd.R_lt (tR HO134.out))) (Kd.R_lt (tR HO137.out))) (below_size tG))
        replace HO_109001 := Aside0.mk (Kd.R_mono (Kd.R_told (Kd.R_told (Kd.R_old (tR HO_109001.out) hb) (Kd.R_base ho0)) (Kd.R_base ho1)) (fun _ h_ => h_.1))
        replace HO_109002 := Aside0.mk (Kd.R_mono (Kd.R_told (Kd.R_told (Kd.R_old (tR HO_109002.out) hb) (Kd.R_base ho0)) (Kd.R_base ho1)) (fun _ h_ => h_.1))
        replace HO_131001 := Aside0.mk (Kd.R_mono (Kd.R_told (Kd.R_told (Kd.R_old (tR HO_131001.out) hb) (Kd.R_base ho0)) (Kd.R_base ho1)) (fun _ h_ => h_.1))
        replace HO_131002 := Aside0.mk (Kd.R_mono (Kd.R_told (Kd.R_told (Kd.R_old (tR HO_131002.out) hb) (Kd.R_base ho0)) (Kd.R_base ho1)) (fun _ h_ => h_.1))
        replace HO134 := Aside0.mk (Kd.R_mono (Kd.R_told (Kd.R_told (Kd.R_old (tR HO134.out) hb) (Kd.R_base ho0)) (Kd.R_base ho1)) (fun _ h_ => h_.1))
        replace HO137 := Aside0.mk (Kd.R_mono (Kd.R_told (Kd.R_told (Kd.R_old (tR HO137.out) hb) (Kd.R_base ho0)) (Kd.R_base ho1)) (fun _ h_ => h_.1))
        replace BK108 := Aside0.mk (blk_below (g := gb108) (tK BK108.out) hb)
        replace BK130 := Aside0.mk (blk_below (g := gb130) (tK BK130.out) hb)
        replace HB := Aside0.mk (below_step tG hb)
        (try clear hb)
        (try clear hb2)
        (try clear hk)
        (try clear hi)
        (try clear ho0)
        (try clear ho1)
        obtain ⟨Ao44, co44, eo44⟩ := Kd.R_slice HO141.out
        (first | subst eo44 | (injection eo44 with f1_ f2_ f3_; have f4_ := f1_.symm; have f5_ := f3_.symm; clear f1_ f2_ f3_; subst f4_; subst f5_))
        obtain ⟨Ao45, co45, eo45⟩ := Kd.R_slice HO144.out
        (first | subst eo45 | (injection eo45 with f1_ f2_ f3_; have f4_ := f1_.symm; have f5_ := f3_.symm; clear f1_ f2_ f3_; subst f4_; subst f5_))
        obtain ⟨Ao46, co46, eo46⟩ := Kd.R_slice HO_109001.out
        (first | subst eo46 | (injection eo46 with f1_ f2_ f3_; have f4_ := f1_.symm; have f5_ := f3_.symm; clear f1_ f2_ f3_; subst f4_; subst f5_))
        obtain ⟨Ao47, co47, eo47⟩ := Kd.R_slice HO_109002.out
        (first | subst eo47 | (injection eo47 with f1_ f2_ f3_; have f4_ := f1_.symm; have f5_ := f3_.symm; clear f1_ f2_ f3_; subst f4_; subst f5_))
        refine hK.out _ _ ⟨(blk_cell BK130.out 0).trans rfl, (blk_cell BK130.out 1).trans rfl, (blk_cell BK130.out 2).trans rfl, (blk_cell BK108.out 0).trans rfl, (blk_cell BK108.out 1).trans rfl, (blk_cell BK108.out 2).trans rfl⟩ (fun hHeld => ?_)
        clear hK K
        refine nm ?_
        refine one_ (i := 4) (N := some 23) (bm 5 6) rfl rfl (by kernel_rfl) (by decide) (fun K hK => ?_)
        refine goes_ Tryd.func88 (by kernel_rfl) rfl #[.agg #[.bool t138, .slice Ao44 t139.length co44, .slice Ao45 t142.length co45], .agg #[.bool x109000_1, .slice Ao46 x109001_1.length co46, .slice Ao47 x109002_1.length co47]] (by rfl) rfl rfl tL ?_
        with_reducible refine (earshotref01_Cmp.calls k2 t138 _ _ t139 _ _ t142 x109000_1 _ _ x109001_1 _ _ x109002_1 t145 _ ?side1 ?side2 ?side3 ?side4 ?side5 ?side6 ?side7 ?side8 A33.out).mono ?_
        (case side1 => exact tC (Kd.R_reads' HO141.out).2.2)
        (case side2 => exact (Kd.R_reads' HO141.out).2.1)
        (case side3 => exact tC (Kd.R_reads' HO144.out).2.2)
        (case side4 => exact (Kd.R_reads' HO144.out).2.1)
        (case side5 => exact tC (Kd.R_reads' HO_109001.out).2.2)
        (case side6 => exact (Kd.R_reads' HO_109001.out).2.1)
        (case side7 => exact tC (Kd.R_reads' HO_109002.out).2.2)
        (case side8 => exact (Kd.R_reads' HO_109002.out).2.1)
        rintro e w48 ⟨rfl, hb⟩
        refine ⟨_, rfl, ?_⟩
        replace HO_109001 := Aside0.mk (Kd.R_below (tR HO_109001.out) hb)
        replace HO_109002 := Aside0.mk (Kd.R_below (tR HO_109002.out) hb)
        replace HO_131001 := Aside0.mk (Kd.R_below (tR HO_131001.out) hb)
        replace HO_131002 := Aside0.mk (Kd.R_below (tR HO_131002.out) hb)
        replace HO134 := Aside0.mk (Kd.R_below (tR HO134.out) hb)
        replace HO137 := Aside0.mk (Kd.R_below (tR HO137.out) hb)
        replace HO141 := Aside0.mk (Kd.R_below (tR HO141.out) hb)
        replace HO144 := Aside0.mk (Kd.R_below (tR HO144.out) hb)
        replace BK108 := Aside0.mk (blk_below (g := gb108) (tK BK108.out) hb)
        replace BK130 := Aside0.mk (blk_below (g := gb130) (tK BK130.out) hb)
        replace HB := Aside0.mk (below_step tG hb)
        (try clear hb)
        (try clear hb2)
        (try clear hk)
        (try clear hi)
        refine hK.out _ _ ⟨(blk_cell BK130.out 0).trans rfl, (blk_cell BK130.out 1).trans rfl, (blk_cell BK130.out 2).trans rfl, (blk_cell BK108.out 0).trans rfl, (blk_cell BK108.out 1).trans rfl, (blk_cell BK108.out 2).trans rfl⟩ (fun hHeld => ?_)
        clear hK K
        refine nm ?_
        refine pure_ (i := 5) (N := some 24) (v := ?_) (a' := ?_) (bm 6 6) rfl rfl (by kernel_rfl) (fun _ _ _ h => h) (Or.inl ⟨by rfl, ?_⟩) ?_ ?_
        rotate_left
        ·intro w'
         go_simp
         with_reducible rfl
        rotate_left
        ·simp only [Act.put, List.setIfInBounds_toArray, List.set_cons_zero, List.set_cons_succ, i64_w, i32_w]
         rfl
        refine done_ (by kernel_rfl) ?_
        try go_wp2
        replace HO_109001 := Aside0.mk (Kd.R_drew HO_109001.out)
        replace HO_109002 := Aside0.mk (Kd.R_drew HO_109002.out)
        replace HO_131001 := Aside0.mk (Kd.R_drew HO_131001.out)
        replace HO_131002 := Aside0.mk (Kd.R_drew HO_131002.out)
        replace HO134 := Aside0.mk (Kd.R_drew HO134.out)
        replace HO137 := Aside0.mk (Kd.R_drew HO137.out)
        replace HO141 := Aside0.mk (Kd.R_drew HO141.out)
        replace HO144 := Aside0.mk (Kd.R_drew HO144.out)
        replace BK108 := Aside0.mk (blk_drew BK108.out)
        replace BK130 := Aside0.mk (blk_drew BK130.out)
        replace HB := Aside0.mk (below_drew1 HB.out)
        refine start_ (n := 4) (S := fun w' => w'.cell? ⟨gb130, 0, none⟩ = some (.bool x131000_2) ∧ w'.cell? ⟨gb130, 1, none⟩ = some (.slice Ao39 x131001_2.length co39) ∧ w'.cell? ⟨gb130, 2, none⟩ = some (.slice Ao40 x131002_2.length co40)) (ds := [3]) (bm 0 4) (by kernel_rfl) rfl rfl ⟨(blk_cell BK130.out 0).trans rfl, (blk_cell BK130.out 1).trans rfl, (blk_cell BK130.out 2).trans rfl⟩ (fun hHeld => ?_)
        generalize w48.drew = w49 at HO_109001 HO_109002 HO_131001 HO_131002 HO134 HO137 HO141 HO144 BK108 BK130 HB hHeld ⊢
        refine take_ (i := 0) (N := some 25) (v := ?_) (a' := ?_) (bm 1 4) rfl rfl (by kernel_rfl) (fun _ _ _ h => h) (Or.inl ⟨by rfl, ?_⟩) hHeld ?_ ?_
        rotate_left
        ·rintro w' ⟨s0, s1, s2⟩
         go_simp
         with_reducible rfl
        rotate_left
        ·simp only [Act.put, List.setIfInBounds_toArray, List.set_cons_zero, List.set_cons_succ, i64_w, i32_w]
         rfl
        refine one_ (i := 1) (N := some 26) (bm 2 4) rfl rfl (by kernel_rfl) (by decide) (fun K hK => ?_)
        refine goes_ Tryd.func86 (by kernel_rfl) rfl #[.int .i64 2] (by rfl) rfl rfl tL ?_
        with_reducible refine (earshotref01_Of.calls k2 2 t146 t147 t150 _ A35.out).mono ?_
        rintro e w50 ⟨v148, v151, rfl, ho0, ho1, hb⟩
        refine ⟨_, rfl, ?_⟩
        have HO149 := Aside0.mk (Kd.R_lower (Kd.R_new' (Kd.R_new' (Kd.R_new' (Kd.R_new' (Kd.R_new' (Kd.R_new' (Kd.R_new' (Kd.R_new' ho0 (Kd.R_lt (tR HO_109001.out))) (Kd.R_lt (tR HO_109002.out))) (Kd.R_lt (tR HO_131001.out))) (Kd.R_lt (tR HO_131002.out))) (Kd.R_lt (tR HO134.out))) (Kd.R_lt (tR HO137.out))) (Kd.R_lt (tR HO141.out))) (Kd.R_lt (tR HO144.out))) (below_size tG))
        have HO152 := Aside0.mk (Kd.R_lower (Kd.R_new' (Kd.R_new' (Kd.R_new' (Kd.R_new' (Kd.R_new' (Kd.R_new' (Kd.R_new' (Kd.R_new' ho1 (Kd.R_lt (tR HO_109001.out))) (Kd.R_lt (tR HO_109002.out))) (Kd.R_lt (tR HO_131001.out))) (Kd.R_lt (tR HO_131002.out))) (Kd.R_lt (tR HO134.out))) (Kd.R_lt (tR HO137.out))) (Kd.R_lt (tR HO141.out))) (Kd.R_lt (tR HO144.out))) (below_size tG))
        replace HO_109001 := Aside0.mk (Kd.R_mono (Kd.R_told (Kd.R_told (Kd.R_old (tR HO_109001.out) hb) (Kd.R_base ho0)) (Kd.R_base ho1)) (fun _ h_ => h_.1))
        replace HO_109002 := Aside0.mk (Kd.R_mono (Kd.R_told (Kd.R_told (Kd.R_old (tR HO_109002.out) hb) (Kd.R_base ho0)) (Kd.R_base ho1)) (fun _ h_ => h_.1))
        replace HO_131001 := Aside0.mk (Kd.R_mono (Kd.R_told (Kd.R_told (Kd.R_old (tR HO_131001.out) hb) (Kd.R_base ho0)) (Kd.R_base ho1)) (fun _ h_ => h_.1))
        replace HO_131002 := Aside0.mk (Kd.R_mono (Kd.R_told (Kd.R_told (Kd.R_old (tR HO_131002.out) hb) (Kd.R_base ho0)) (Kd.R_base ho1)) (fun _ h_ => h_.1))
        replace HO134 := Aside0.mk (Kd.R_mono (Kd.R_told (Kd.R_told (Kd.R_old (tR HO134.out) hb) (Kd.R_base ho0)) (Kd.R_base ho1)) (fun _ h_ => h_.1))
        replace HO137 := Aside0.mk (Kd.R_mono (Kd.R_told (Kd.R_told (Kd.R_old (tR HO137.out) hb) (Kd.R_base ho0)) (Kd.R_base ho1)) (fun _ h_ => h_.1))
        replace HO141 := Aside0.mk (Kd.R_mono (Kd.R_told (Kd.R_told (Kd.R_old (tR HO141.out) hb) (Kd.R_base ho0)) (Kd.R_base ho1)) (fun _ h_ => h_.1))
        replace HO144 := Aside0.mk (Kd.R_mono (Kd.R_told (Kd.R_told (Kd.R_old (tR HO144.out) hb) (Kd.R_base ho0)) (Kd.R_base ho1)) (fun _ h_ => h_.1))
        replace BK108 := Aside0.mk (blk_below (g := gb108) (tK BK108.out) hb)
        replace BK130 := Aside0.mk (blk_below (g := gb130) (tK BK130.out) hb)
        replace HB := Aside0.mk (below_step tG hb)
        (try clear hb)
        (try clear hb2)
        (try clear hk)
        (try clear hi)
        (try clear ho0)
        (try clear ho1)
        obtain ⟨Ao51, co51, eo51⟩ := Kd.R_slice HO149.out
        (first | subst eo51 | (injection eo51 with f1_ f2_ f3_; have f4_ := f1_.symm; have f5_ := f3_.symm; clear f1_ f2_ f3_; subst f4_; subst f5_))
        obtain ⟨Ao52, co52, eo52⟩ := Kd.R_slice HO152.out
        (first | subst eo52 | (injection eo52 with f1_ f2_ f3_; have f4_ := f1_.symm; have f5_ := f3_.symm; clear f1_ f2_ f3_; subst f4_; subst f5_))
        refine hK.out _ _ ⟨(blk_cell BK130.out 0).trans rfl, (blk_cell BK130.out 1).trans rfl, (blk_cell BK130.out 2).trans rfl⟩ (fun hHeld => ?_)
        clear hK K
        refine nm ?_
        refine one_ (i := 2) (N := some 27) (bm 3 4) rfl rfl (by kernel_rfl) (by decide) (fun K hK => ?_)
        refine goes_ Tryd.func87 (by kernel_rfl) rfl #[.agg #[.bool x131000_2, .slice Ao39 x131001_2.length co39, .slice Ao40 x131002_2.length co40], .agg #[.bool t146, .slice Ao51 t147.length co51, .slice Ao52 t150.length co52]] (by rfl) rfl rfl tL ?_
        with_reducible refine (earshotref01_Mul.calls k2 x131000_2 _ _ x131001_2 _ _ x131002_2 t146 _ _ t147 _ _ t150 t153 t154 t157 _ ?side1 ?side2 ?side3 ?side4 ?side5 ?side6 ?side7 ?side8 A36.out).mono ?_
        (case side1 => exact tC (Kd.R_reads' HO_131001.out).2.2)
        (case side2 => exact (Kd.R_reads' HO_131001.out).2.1)
        (case side3 => exact tC (Kd.R_reads' HO_131002.out).2.2)
        (case side4 => exact (Kd.R_reads' HO_131002.out).2.1)
        (case side5 => exact tC (Kd.R_reads' HO149.out).2.2)
        (case side6 => exact (Kd.R_reads' HO149.out).2.1)
        (case side7 => exact tC (Kd.R_reads' HO152.out).2.2)
        (case side8 => exact (Kd.R_reads' HO152.out).2.1)
        rintro e w53 ⟨v155, v158, rfl, ho0, ho1, hb⟩
        refine ⟨_, rfl, ?_⟩
        have HO156 := Aside0.mk (Kd.R_lower (Kd.R_new' (Kd.R_new' (Kd.R_new' (Kd.R_new' (Kd.R_new' (Kd.R_new' (Kd.R_new' (Kd.R_new' (Kd.R_new' (Kd.R_new' ho0 (Kd.R_lt (tR HO_109001.out))) (Kd.R_lt (tR HO_109002.out))) (Kd.R_lt (tR HO_131001.out))) (Kd.R_lt (tR HO_131002.out))) (Kd.R_lt (tR HO134.out))) (Kd.R_lt (tR HO137.out))) (Kd.R_lt (tR HO141.out))) (Kd.R_lt (tR HO144.out))) (Kd.R_lt (tR HO149.out))) (Kd.R_lt (tR HO152.out))) (below_size tG))
        have HO159 := Aside0.mk (Kd.R_lower (Kd.R_new' (Kd.R_new' (Kd.R_new' (Kd.R_new' (Kd.R_new' (Kd.R_new' (Kd.R_new' (Kd.R_new' (Kd.R_new' (Kd.R_new' ho1 (Kd.R_lt (tR HO_109001.out))) (Kd.R_lt (tR HO_109002.out))) (Kd.R_lt (tR HO_131001.out))) (Kd.R_lt (tR HO_131002.out))) (Kd.R_lt (tR HO134.out))) (Kd.R_lt (tR HO137.out))) (Kd.R_lt (tR HO141.out))) (Kd.R_lt (tR HO144.out))) (Kd.R_lt (tR HO149.out))) (Kd.R_lt (tR HO152.out))) (below_size tG))
        replace HO_109001 := Aside0.mk (Kd.R_mono (Kd.R_told (Kd.R_told (Kd.R_old (tR HO_109001.out) hb) (Kd.R_base ho0)) (Kd.R_base ho1)) (fun _ h_ => h_.1))
        replace HO_109002 := Aside0.mk (Kd.R_mono (Kd.R_told (Kd.R_told (Kd.R_old (tR HO_109002.out) hb) (Kd.R_base ho0)) (Kd.R_base ho1)) (fun _ h_ => h_.1))
        replace HO_131001 := Aside0.mk (Kd.R_mono (Kd.R_told (Kd.R_told (Kd.R_old (tR HO_131001.out) hb) (Kd.R_base ho0)) (Kd.R_base ho1)) (fun _ h_ => h_.1))
        replace HO_131002 := Aside0.mk (Kd.R_mono (Kd.R_told (Kd.R_told (Kd.R_old (tR HO_131002.out) hb) (Kd.R_base ho0)) (Kd.R_base ho1)) (fun _ h_ => h_.1))
        replace HO134 := Aside0.mk (Kd.R_mono (Kd.R_told (Kd.R_told (Kd.R_old (tR HO134.out) hb) (Kd.R_base ho0)) (Kd.R_base ho1)) (fun _ h_ => h_.1))
        replace HO137 := Aside0.mk (Kd.R_mono (Kd.R_told (Kd.R_told (Kd.R_old (tR HO137.out) hb) (Kd.R_base ho0)) (Kd.R_base ho1)) (fun _ h_ => h_.1))
        replace HO141 := Aside0.mk (Kd.R_mono (Kd.R_told (Kd.R_told (Kd.R_old (tR HO141.out) hb) (Kd.R_base ho0)) (Kd.R_base ho1)) (fun _ h_ => h_.1))
        replace HO144 := Aside0.mk (Kd.R_mono (Kd.R_told (Kd.R_told (Kd.R_old (tR HO144.out) hb) (Kd.R_base ho0)) (Kd.R_base ho1)) (fun _ h_ => h_.1))
        replace HO149 := Aside0.mk (Kd.R_mono (Kd.R_told (Kd.R_told (Kd.R_old (tR HO149.out) hb) (Kd.R_base ho0)) (Kd.R_base ho1)) (fun _ h_ => h_.1))
        replace HO152 := Aside0.mk (Kd.R_mono (Kd.R_told (Kd.R_told (Kd.R_old (tR HO152.out) hb) (Kd.R_base ho0)) (Kd.R_base ho1)) (fun _ h_ => h_.1))
        replace BK108 := Aside0.mk (blk_below (g := gb108) (tK BK108.out) hb)
        replace BK130 := Aside0.mk (blk_below (g := gb130) (tK BK130.out) hb)
        replace HB := Aside0.mk (below_step tG hb)
        (try clear hb)
        (try clear hb2)
        (try clear hk)
        (try clear hi)
        (try clear ho0)
        (try clear ho1)
        obtain ⟨Ao55, co55, eo55⟩ := Kd.R_slice HO156.out
        (first | subst eo55 | (injection eo55 with f1_ f2_ f3_; have f4_ := f1_.symm; have f5_ := f3_.symm; clear f1_ f2_ f3_; subst f4_; subst f5_))
        obtain ⟨Ao57, co57, eo57⟩ := Kd.R_slice HO159.out
        (first | subst eo57 | (injection eo57 with f1_ f2_ f3_; have f4_ := f1_.symm; have f5_ := f3_.symm; clear f1_ f2_ f3_; subst f4_; subst f5_))
        refine hK.out _ _ ⟨(blk_cell BK130.out 0).trans rfl, (blk_cell BK130.out 1).trans rfl, (blk_cell BK130.out 2).trans rfl⟩ (fun hHeld => ?_)
        clear hK K
        refine nm ?_
        refine last_ (i := 3) (N := none) (bm 4 4) rfl rfl (by kernel_rfl) (by decide) (fun K hK => ?_)
        have hs54 : w53.cell? ⟨gb130, 0, none⟩ = some (.bool x131000_2) := (blk_cell BK130.out 0).trans rfl
        have hfs54 := blk_frozen BK130.out 0
        have hns54_0 := NB108_130.out
        have hms54_0 := NB130_108.out
        have hs56 : w53.cell? ⟨gb130, 1, none⟩ = some (.slice Ao39 x131001_2.length co39) := (blk_cell BK130.out 1).trans rfl
        have hfs56 := blk_frozen BK130.out 1
        have hns56_0 := NB108_130.out
        have hms56_0 := NB130_108.out
        have hs58 : w53.cell? ⟨gb130, 2, none⟩ = some (.slice Ao40 x131002_2.length co40) := (blk_cell BK130.out 2).trans rfl
        have hfs58 := blk_frozen BK130.out 2
        have hns58_0 := NB108_130.out
        have hms58_0 := NB130_108.out
        refine skip_ (w1 := ?_) (by rfl) rfl ?_ ?_
        rotate_left
        ·go_simp
         rfl
        refine hK.out _ _ ?_
        clear hK K
        refine done_ (by kernel_rfl) ?_
        try go_wp2
        go_roundg k2
        case measure => have := HK1.out; have := HK2.out; omega
        case rel => exact ⟨(wrap64 (x6_2 + 1)), (t153), (t154), (t157), (.slice Ao55 t154.length co55), (.slice Ao57 t157.length co57), (by first | rfl | (simp; done) | (simp only [i64_w]; done) | (simp [*]; done)), H', ⟨by have := HK1.out; have := HK2.out; omega⟩, ⟨by (with_reducible repeat (first | apply Kd.R_alloc | apply Kd.R_drewN | apply Kd.R_drew)); exact Kd.R_mono (Kd.R_far (p := ⟨gb130, 2, none⟩) (Kd.R_far (p := ⟨gb130, 1, none⟩) (Kd.R_far (p := ⟨gb130, 0, none⟩) (Kd.R_types HO_109001.out BK130.out (by decide)) (fun _ hk => hk.2) (.bool t153)) (fun _ hk => hk.2) (.slice Ao55 t154.length co55)) (fun _ hk => hk.2) (.slice Ao57 t157.length co57)) (fun _ hk => ⟨hk.1.1.1.1.1.1.1.1.1.1, ⟨hk.1.1.2, hk.1.2⟩⟩)⟩, ⟨by (with_reducible repeat (first | apply Kd.R_alloc | apply Kd.R_drewN | apply Kd.R_drew)); exact Kd.R_mono (Kd.R_far (p := ⟨gb130, 2, none⟩) (Kd.R_far (p := ⟨gb130, 1, none⟩) (Kd.R_far (p := ⟨gb130, 0, none⟩) (Kd.R_types HO_109002.out BK130.out (by decide)) (fun _ hk => hk.2) (.bool t153)) (fun _ hk => hk.2) (.slice Ao55 t154.length co55)) (fun _ hk => hk.2) (.slice Ao57 t157.length co57)) (fun _ hk => ⟨hk.1.1.1.1.1.1.1.1.1.1, ⟨hk.1.1.2, hk.1.2⟩⟩)⟩, ⟨by (with_reducible repeat (first | apply Kd.R_alloc | apply Kd.R_drewN | apply Kd.R_drew)); exact Kd.R_mono (Kd.R_far (p := ⟨gb130, 2, none⟩) (Kd.R_far (p := ⟨gb130, 1, none⟩) (Kd.R_far (p := ⟨gb130, 0, none⟩) (Kd.R_types HO156.out BK130.out (by decide)) (fun _ hk => hk.2) (.bool t153)) (fun _ hk => hk.2) (.slice Ao55 t154.length co55)) (fun _ hk => hk.2) (.slice Ao57 t157.length co57)) (fun _ hk => ⟨hk.1.1.1.1.1.1.1.1.1.1.2, ⟨hk.1.1.1.1.1.1.1.1.1.2, hk.1.1.1.1.1.1.1.1.1.1.1⟩⟩)⟩, ⟨by (with_reducible repeat (first | apply Kd.R_alloc | apply Kd.R_drewN | apply Kd.R_drew)); exact Kd.R_mono (Kd.R_far (p := ⟨gb130, 2, none⟩) (Kd.R_far (p := ⟨gb130, 1, none⟩) (Kd.R_far (p := ⟨gb130, 0, none⟩) (Kd.R_types HO159.out BK130.out (by decide)) (fun _ hk => hk.2) (.bool t153)) (fun _ hk => hk.2) (.slice Ao55 t154.length co55)) (fun _ hk => hk.2) (.slice Ao57 t157.length co57)) (fun _ hk => ⟨hk.1.1.1.1.1.1.1.1.1.1.2, ⟨hk.1.1.1.1.1.1.1.1.1.2, hk.1.1.1.1.1.1.1.1.1.1.1⟩⟩)⟩, ⟨by (with_reducible repeat (first | refine blk_drewN ?_ _ | refine blk_drew ?_ | refine blk_alloc ?_ _)); refine blk_far ?_ NB108_130.out _; (with_reducible repeat (first | refine blk_drewN ?_ _ | refine blk_drew ?_ | refine blk_alloc ?_ _)); refine blk_far ?_ NB108_130.out _; (with_reducible repeat (first | refine blk_drewN ?_ _ | refine blk_drew ?_ | refine blk_alloc ?_ _)); refine blk_far ?_ NB108_130.out _; exact tK BK108.out⟩, ⟨by (with_reducible repeat (first | refine blk_drewN ?_ _ | refine blk_drew ?_ | refine blk_alloc ?_ _)); refine blk_put (cs := #[.bool t153, .slice Ao55 t154.length co55, .slice Ao40 x131002_2.length co40]) ?_ 2 _ rfl; (with_reducible repeat (first | refine blk_drewN ?_ _ | refine blk_drew ?_ | refine blk_alloc ?_ _)); refine blk_put (cs := #[.bool t153, .slice Ao39 x131001_2.length co39, .slice Ao40 x131002_2.length co40]) ?_ 1 _ rfl; (with_reducible repeat (first | refine blk_drewN ?_ _ | refine blk_drew ?_ | refine blk_alloc ?_ _)); refine blk_put (cs := #[.bool x131000_2, .slice Ao39 x131001_2.length co39, .slice Ao40 x131002_2.length co40]) ?_ 0 _ rfl; exact tK BK130.out⟩, ⟨tG⟩⟩
       ·rw [if_neg c34] at H
        have c34b0 := decide_eq_false c34
        clear c34
        obtain rfl := Option.some.inj H
        try go_wp2
        replace HO_109001 := Aside0.mk (Kd.R_drew HO_109001.out)
        replace HO_109002 := Aside0.mk (Kd.R_drew HO_109002.out)
        replace HO_131001 := Aside0.mk (Kd.R_drew HO_131001.out)
        replace HO_131002 := Aside0.mk (Kd.R_drew HO_131002.out)
        replace BK108 := Aside0.mk (blk_drew BK108.out)
        replace BK130 := Aside0.mk (blk_drew BK130.out)
        replace HB := Aside0.mk (below_drew1 HB.out)
        refine start_ (n := 6) (S := fun w' => w'.cell? ⟨gb130, 0, none⟩ = some (.bool x131000_2) ∧ w'.cell? ⟨gb130, 1, none⟩ = some (u131001) ∧ w'.cell? ⟨gb130, 2, none⟩ = some (u131002) ∧ w'.cell? ⟨gb108, 0, none⟩ = some (.bool x109000_1) ∧ w'.cell? ⟨gb108, 1, none⟩ = some (u109001) ∧ w'.cell? ⟨gb108, 2, none⟩ = some (u109002)) (ds := []) (bm 0 6) (by kernel_rfl) rfl rfl ⟨(blk_cell BK130.out 0).trans rfl, (blk_cell BK130.out 1).trans rfl, (blk_cell BK130.out 2).trans rfl, (blk_cell BK108.out 0).trans rfl, (blk_cell BK108.out 1).trans rfl, (blk_cell BK108.out 2).trans rfl⟩ (fun hHeld => ?_)
        generalize wr.drew = w59 at HO_109001 HO_109002 HO_131001 HO_131002 BK108 BK130 HB hHeld ⊢
        refine take_ (i := 0) (N := some 19) (v := ?_) (a' := ?_) (bm 1 6) rfl rfl (by kernel_rfl) (fun _ _ _ h => h) (Or.inl ⟨by rfl, ?_⟩) hHeld ?_ ?_
        rotate_left
        ·rintro w' ⟨s0, s1, s2, s3, s4, s5⟩
         go_simp
         with_reducible rfl
        rotate_left
        ·simp only [Act.put, List.setIfInBounds_toArray, List.set_cons_zero, List.set_cons_succ, i64_w, i32_w]
         rfl
        refine take_ (i := 3) (N := some 22) (v := ?_) (a' := ?_) (bq 9 6) rfl rfl (by kernel_rfl) (fun _ _ _ h => h) (Or.inl ⟨by rfl, ?_⟩) hHeld ?_ ?_
        rotate_left
        ·rintro w' ⟨s0, s1, s2, s3, s4, s5⟩
         go_simp
         with_reducible rfl
        rotate_left
        ·simp only [Act.put, List.setIfInBounds_toArray, List.set_cons_zero, List.set_cons_succ, i64_w, i32_w]
         rfl
        refine one_ (i := 1) (N := some 20) (bq 11 6) rfl rfl (by kernel_rfl) (by decide) (fun K hK => ?_)
        refine goes_ Tryd.func86 (by kernel_rfl) rfl #[.int .i64 2] (by rfl) rfl rfl tL ?_
        with_reducible refine (earshotref01_Of.calls k2 2 t131 t132 t135 _ A31.out).mono ?_
        rintro e w60 ⟨v133, v136, rfl, ho0, ho1, hb⟩
        refine ⟨_, rfl, ?_⟩
        have HO134 := Aside0.mk (Kd.R_lower (Kd.R_new' (Kd.R_new' (Kd.R_new' (Kd.R_new' ho0 (Kd.R_lt (tR HO_109001.out))) (Kd.R_lt (tR HO_109002.out))) (Kd.R_lt (tR HO_131001.out))) (Kd.R_lt (tR HO_131002.out))) (below_size tG))
        have HO137 := Aside0.mk (Kd.R_lower (Kd.R_new' (Kd.R_new' (Kd.R_new' (Kd.R_new' ho1 (Kd.R_lt (tR HO_109001.out))) (Kd.R_lt (tR HO_109002.out))) (Kd.R_lt (tR HO_131001.out))) (Kd.R_lt (tR HO_131002.out))) (below_size tG))
        replace HO_109001 := Aside0.mk (Kd.R_mono (Kd.R_told (Kd.R_told (Kd.R_old (tR HO_109001.out) hb) (Kd.R_base ho0)) (Kd.R_base ho1)) (fun _ h_ => h_.1))
        replace HO_109002 := Aside0.mk (Kd.R_mono (Kd.R_told (Kd.R_told (Kd.R_old (tR HO_109002.out) hb) (Kd.R_base ho0)) (Kd.R_base ho1)) (fun _ h_ => h_.1))
        replace HO_131001 := Aside0.mk (Kd.R_mono (Kd.R_told (Kd.R_told (Kd.R_old (tR HO_131001.out) hb) (Kd.R_base ho0)) (Kd.R_base ho1)) (fun _ h_ => h_.1))
        replace HO_131002 := Aside0.mk (Kd.R_mono (Kd.R_told (Kd.R_told (Kd.R_old (tR HO_131002.out) hb) (Kd.R_base ho0)) (Kd.R_base ho1)) (fun _ h_ => h_.1))
        replace BK108 := Aside0.mk (blk_below (g := gb108) (tK BK108.out) hb)
        replace BK130 := Aside0.mk (blk_below (g := gb130) (tK BK130.out) hb)
        replace HB := Aside0.mk (below_step tG hb)
        (try clear hb)
        (try clear hb2)
        (try clear hk)
        (try clear hi)
        (try clear ho0)
        (try clear ho1)
        obtain ⟨Ao61, co61, eo61⟩ := Kd.R_slice HO_131001.out
        (first | subst eo61 | (injection eo61 with f1_ f2_ f3_; have f4_ := f1_.symm; have f5_ := f3_.symm; clear f1_ f2_ f3_; subst f4_; subst f5_))
        obtain ⟨Ao62, co62, eo62⟩ := Kd.R_slice HO_131002.out
        (first | subst eo62 | (injection eo62 with f1_ f2_ f3_; have f4_ := f1_.symm; have f5_ := f3_.symm; clear f1_ f2_ f3_; subst f4_; subst f5_))
        obtain ⟨Ao63, co63, eo63⟩ := Kd.R_slice HO134.out
        (first | subst eo63 | (injection eo63 with f1_ f2_ f3_; have f4_ := f1_.symm; have f5_ := f3_.symm; clear f1_ f2_ f3_; subst f4_; subst f5_))
        obtain ⟨Ao64, co64, eo64⟩ := Kd.R_slice HO137.out
        (first | subst eo64 | (injection eo64 with f1_ f2_ f3_; have f4_ := f1_.symm; have f5_ := f3_.symm; clear f1_ f2_ f3_; subst f4_; subst f5_))
        refine hK.out _ _ ⟨(blk_cell BK130.out 0).trans rfl, (blk_cell BK130.out 1).trans rfl, (blk_cell BK130.out 2).trans rfl, (blk_cell BK108.out 0).trans rfl, (blk_cell BK108.out 1).trans rfl, (blk_cell BK108.out 2).trans rfl⟩ (fun hHeld => ?_)
        clear hK K
        refine nm ?_
        refine one_ (i := 2) (N := some 21) (bm 4 6) rfl rfl (by kernel_rfl) (by decide) (fun K hK => ?_)
        refine goes_ Tryd.func87 (by kernel_rfl) rfl #[.agg #[.bool x131000_2, .slice Ao61 x131001_2.length co61, .slice Ao62 x131002_2.length co62], .agg #[.bool t131, .slice Ao63 t132.length co63, .slice Ao64 t135.length co64]] (by rfl) rfl rfl tL ?_
        with_reducible refine (earshotref01_Mul.calls k2 x131000_2 _ _ x131001_2 _ _ x131002_2 t131 _ _ t132 _ _ t135 t138 t139 t142 _ ?side1 ?side2 ?side3 ?side4 ?side5 ?side6 ?side7 ?side8 A32.out).mono ?_
        (case side1 => exact tC (Kd.R_reads' HO_131001.out).2.2)
        (case side2 => exact (Kd.R_reads' HO_131001.out).2.1)
        (case side3 => exact tC (Kd.R_reads' HO_131002.out).2.2)
        (case side4 => exact (Kd.R_reads' HO_131002.out).2.1)
        (case side5 => exact tC (Kd.R_reads' HO134.out).2.2)
        (case side6 => exact (Kd.R_reads' HO134.out).2.1)
        (case side7 => exact tC (Kd.R_reads' HO137.out).2.2)
        (case side8 => exact (Kd.R_reads' HO137.out).2.1)
        rintro e w65 ⟨v140, v143, rfl, ho0, ho1, hb⟩
        refine ⟨_, rfl, ?_⟩
        have HO141 := Aside0.mk (Kd.R_lower (Kd.R_new' (Kd.R_new' (Kd.R_new' (Kd.R_new' (Kd.R_new' (Kd.R_new' ho0 (Kd.R_lt (tR HO_109001.out))) (Kd.R_lt (tR HO_109002.out))) (Kd.R_lt (tR HO_131001.out))) (Kd.R_lt (tR HO_131002.out))) (Kd.R_lt (tR HO134.out))) (Kd.R_lt (tR HO137.out))) (below_size tG))
        have HO144 := Aside0.mk (Kd.R_lower (Kd.R_new' (Kd.R_new' (Kd.R_new' (Kd.R_new' (Kd.R_new' (Kd.R_new' ho1 (Kd.R_lt (tR HO_109001.out))) (Kd.R_lt (tR HO_109002.out))) (Kd.R_lt (tR HO_131001.out))) (Kd.R_lt (tR HO_131002.out))) (Kd.R_lt (tR HO134.out))) (Kd.R_lt (tR HO137.out))) (below_size tG))
        replace HO_109001 := Aside0.mk (Kd.R_mono (Kd.R_told (Kd.R_told (Kd.R_old (tR HO_109001.out) hb) (Kd.R_base ho0)) (Kd.R_base ho1)) (fun _ h_ => h_.1))
        replace HO_109002 := Aside0.mk (Kd.R_mono (Kd.R_told (Kd.R_told (Kd.R_old (tR HO_109002.out) hb) (Kd.R_base ho0)) (Kd.R_base ho1)) (fun _ h_ => h_.1))
        replace HO_131001 := Aside0.mk (Kd.R_mono (Kd.R_told (Kd.R_told (Kd.R_old (tR HO_131001.out) hb) (Kd.R_base ho0)) (Kd.R_base ho1)) (fun _ h_ => h_.1))
        replace HO_131002 := Aside0.mk (Kd.R_mono (Kd.R_told (Kd.R_told (Kd.R_old (tR HO_131002.out) hb) (Kd.R_base ho0)) (Kd.R_base ho1)) (fun _ h_ => h_.1))
        replace HO134 := Aside0.mk (Kd.R_mono (Kd.R_told (Kd.R_told (Kd.R_old (tR HO134.out) hb) (Kd.R_base ho0)) (Kd.R_base ho1)) (fun _ h_ => h_.1))
        replace HO137 := Aside0.mk (Kd.R_mono (Kd.R_told (Kd.R_told (Kd.R_old (tR HO137.out) hb) (Kd.R_base ho0)) (Kd.R_base ho1)) (fun _ h_ => h_.1))
        replace BK108 := Aside0.mk (blk_below (g := gb108) (tK BK108.out) hb)
        replace BK130 := Aside0.mk (blk_below (g := gb130) (tK BK130.out) hb)
        replace HB := Aside0.mk (below_step tG hb)
        (try clear hb)
        (try clear hb2)
        (try clear hk)
        (try clear hi)
        (try clear ho0)
        (try clear ho1)
        obtain ⟨Ao66, co66, eo66⟩ := Kd.R_slice HO141.out
        (first | subst eo66 | (injection eo66 with f1_ f2_ f3_; have f4_ := f1_.symm; have f5_ := f3_.symm; clear f1_ f2_ f3_; subst f4_; subst f5_))
        obtain ⟨Ao67, co67, eo67⟩ := Kd.R_slice HO144.out
        (first | subst eo67 | (injection eo67 with f1_ f2_ f3_; have f4_ := f1_.symm; have f5_ := f3_.symm; clear f1_ f2_ f3_; subst f4_; subst f5_))
        obtain ⟨Ao68, co68, eo68⟩ := Kd.R_slice HO_109001.out
        (first | subst eo68 | (injection eo68 with f1_ f2_ f3_; have f4_ := f1_.symm; have f5_ := f3_.symm; clear f1_ f2_ f3_; subst f4_; subst f5_))
        obtain ⟨Ao69, co69, eo69⟩ := Kd.R_slice HO_109002.out
        (first | subst eo69 | (injection eo69 with f1_ f2_ f3_; have f4_ := f1_.symm; have f5_ := f3_.symm; clear f1_ f2_ f3_; subst f4_; subst f5_))
        refine hK.out _ _ ⟨(blk_cell BK130.out 0).trans rfl, (blk_cell BK130.out 1).trans rfl, (blk_cell BK130.out 2).trans rfl, (blk_cell BK108.out 0).trans rfl, (blk_cell BK108.out 1).trans rfl, (blk_cell BK108.out 2).trans rfl⟩ (fun hHeld => ?_)
        clear hK K
        refine nm ?_
        refine one_ (i := 4) (N := some 23) (bm 5 6) rfl rfl (by kernel_rfl) (by decide) (fun K hK => ?_)
        refine goes_ Tryd.func88 (by kernel_rfl) rfl #[.agg #[.bool t138, .slice Ao66 t139.length co66, .slice Ao67 t142.length co67], .agg #[.bool x109000_1, .slice Ao68 x109001_1.length co68, .slice Ao69 x109002_1.length co69]] (by rfl) rfl rfl tL ?_
        with_reducible refine (earshotref01_Cmp.calls k2 t138 _ _ t139 _ _ t142 x109000_1 _ _ x109001_1 _ _ x109002_1 t145 _ ?side1 ?side2 ?side3 ?side4 ?side5 ?side6 ?side7 ?side8 A33.out).mono ?_
        (case side1 => exact tC (Kd.R_reads' HO141.out).2.2)
        (case side2 => exact (Kd.R_reads' HO141.out).2.1)
        (case side3 => exact tC (Kd.R_reads' HO144.out).2.2)
        (case side4 => exact (Kd.R_reads' HO144.out).2.1)
        (case side5 => exact tC (Kd.R_reads' HO_109001.out).2.2)
        (case side6 => exact (Kd.R_reads' HO_109001.out).2.1)
        (case side7 => exact tC (Kd.R_reads' HO_109002.out).2.2)
        (case side8 => exact (Kd.R_reads' HO_109002.out).2.1)
        rintro e w70 ⟨rfl, hb⟩
        refine ⟨_, rfl, ?_⟩
        replace HO_109001 := Aside0.mk (Kd.R_below (tR HO_109001.out) hb)
        replace HO_109002 := Aside0.mk (Kd.R_below (tR HO_109002.out) hb)
        replace HO_131001 := Aside0.mk (Kd.R_below (tR HO_131001.out) hb)
        replace HO_131002 := Aside0.mk (Kd.R_below (tR HO_131002.out) hb)
        replace HO134 := Aside0.mk (Kd.R_below (tR HO134.out) hb)
        replace HO137 := Aside0.mk (Kd.R_below (tR HO137.out) hb)
        replace HO141 := Aside0.mk (Kd.R_below (tR HO141.out) hb)
        replace HO144 := Aside0.mk (Kd.R_below (tR HO144.out) hb)
        replace BK108 := Aside0.mk (blk_below (g := gb108) (tK BK108.out) hb)
        replace BK130 := Aside0.mk (blk_below (g := gb130) (tK BK130.out) hb)
        replace HB := Aside0.mk (below_step tG hb)
        (try clear hb)
        (try clear hb2)
        (try clear hk)
        (try clear hi)
        refine hK.out _ _ ⟨(blk_cell BK130.out 0).trans rfl, (blk_cell BK130.out 1).trans rfl, (blk_cell BK130.out 2).trans rfl, (blk_cell BK108.out 0).trans rfl, (blk_cell BK108.out 1).trans rfl, (blk_cell BK108.out 2).trans rfl⟩ (fun hHeld => ?_)
        clear hK K
        refine nm ?_
        refine pure_ (i := 5) (N := some 24) (v := ?_) (a' := ?_) (bm 6 6) rfl rfl (by kernel_rfl) (fun _ _ _ h => h) (Or.inl ⟨by rfl, ?_⟩) ?_ ?_
        rotate_left
        ·intro w'
         go_simp
         with_reducible rfl
        rotate_left
        ·simp only [Act.put, List.setIfInBounds_toArray, List.set_cons_zero, List.set_cons_succ, i64_w, i32_w]
         rfl
        refine done_ (by kernel_rfl) ?_
        try go_wp2
        go_ret
        exact ⟨by first | rfl | (simp [errW_none, errW_some] <;> rfl) | (simp [*, errW_none, errW_some] <;> rfl), tG⟩

/-! ### earshotlaw03_FeatureLogs: function 6 -/
def earshotlaw03_FeatureLogs.f (k : Nat) (a0 : Int) : Option (Bool) := (feature_Log.f k a0).bind fun bt101 => (if a0 < 0 then (if bt101.2 = 2 then (if bt101.1 = 0 then ((earshotlaw03_known.f k).bind fun t103 => (some t103)) else (some false)) else (some false)) else (if bt101.2 = 0 then ((earshotref03_Log.f k a0).bind fun t104 => (if bt101.1 = t104 then ((earshotlaw03_known.f k).bind fun t105 => (some t105)) else (some false))) else (some false)))
theorem earshotlaw03_FeatureLogs.mono : ∀ a0 k, LeO (earshotlaw03_FeatureLogs.f k a0) (earshotlaw03_FeatureLogs.f (k + 1) a0) := by
 intro a0 k
 unfold earshotlaw03_FeatureLogs.f
 repeat' first
   | (with_reducible exact earshotlaw03_known.mono _)
   | (with_reducible exact earshotref03_Log.mono _ _)
   | (with_reducible exact feature_Log.mono _ _)
   | (with_reducible exact LeO.refl _)
   | (with_reducible exact LeO.none _)
   | (with_reducible refine LeO.ite ?_ ?_)
   | (with_reducible refine LeO.bind ?_ (fun _ => ?_))
   | exact earshotlaw03_known.mono _
   | exact earshotref03_Log.mono _ _
   | exact feature_Log.mono _ _
   | exact LeO.none _
   | refine LeO.ite ?_ ?_
   | refine LeO.bind ?_ (fun _ => ?_)
set_option maxHeartbeats 8000000 in
set_option maxRecDepth 100000 in
theorem earshotlaw03_FeatureLogs.calls (k : Nat) (a0 : Int) (r : Bool) (w : World) (ht : Kd.C (Kd.int .i64) w (some ⟨0, 0, none⟩) 65 tabL) (h : earshotlaw03_FeatureLogs.f k a0 = some r) :
  Calls Tryd.prog 6 #[.int .i64 a0] w fun e w' => e = .returned (.bool r) ∧ Below w.heap.size w w' := by
 have HRT := Aside0.mk ht
 clear ht
 have HB := Aside0.mk (Below.refl w.heap.size w)
 have H : ((feature_Log.f k a0).bind fun bt101 => (if a0 < 0 then (if bt101.2 = 2 then (if bt101.1 = 0 then ((earshotlaw03_known.f k).bind fun t103 => (some t103)) else (some false)) else (some false)) else (if bt101.2 = 0 then ((earshotref03_Log.f k a0).bind fun t104 => (if bt101.1 = t104 then ((earshotlaw03_known.f k).bind fun t105 => (some t105)) else (some false))) else (some false)))) = some r := h
 clear h
 replace H := Option.bind_eq_some_iff.mp H
 obtain ⟨⟨t101, t102⟩, A20, H⟩ := H
 try dsimp only at H
 have A2 := Aside0.mk A20
 clear A20
 by_cases c3 : a0 < 0
 ·rw [if_pos c3] at H
  have c3b0 := decide_eq_true c3
  clear c3
  by_cases c4 : t102 = 2
  ·rw [if_pos c4] at H
   have c4b0 : (t102 == 2) = true := beq_iff_eq.mpr c4
   have c4b1 : (t102 != 2) = false := bne_eq_false_iff_eq.mpr c4
   clear c4
   by_cases c5 : t101 = 0
   ·rw [if_pos c5] at H
    have c5b0 : (t101 == 0) = true := beq_iff_eq.mpr c5
    have c5b1 : (t101 != 0) = false := bne_eq_false_iff_eq.mpr c5
    clear c5
    replace H := Option.bind_eq_some_iff.mp H
    obtain ⟨t103, A60, H⟩ := H
    try dsimp only at H
    have A6 := Aside0.mk A60
    clear A60
    obtain rfl := Option.some.inj H
    go_enter Tryd.func6, Tryd.ntmps6
    go_wp2_with (first | ((with_reducible refine gate_callee (f := 30) rfl ?_); refine goesL_ (some 7) rfl rfl Tryd.func30 (by kernel_rfl) rfl #[.int .i64 a0] rfl tL ?_; (with_reducible refine (feature_Log.calls k a0 t101 t102 _ A2.out).mono ?_); rintro e w7 ⟨rfl, hb⟩; refine ⟨_, rfl, ?_⟩; replace HB := Aside0.mk (below_step tB hb); (try clear hb); (try clear hb2); (try clear hk); (try clear hi)) | (go_at_call 22; (with_reducible refine (earshotlaw03_known.calls k  t103 _ ?side1 A6.out).mono ?_); (case side1 => exact tC (Kd.C_below HRT.out HB.out)); rintro e w8 ⟨rfl, hb⟩; replace HB := Aside0.mk (below_step tB hb); (try clear hb); (try clear hb2); (try clear hk); (try clear hi)))
    go_ret
    exact ⟨by first | rfl | (simp [errW_none, errW_some] <;> rfl) | (simp [*, errW_none, errW_some] <;> rfl), tB⟩
   ·rw [if_neg c5] at H
    have c5b0 : (t101 == 0) = false := beq_eq_false_iff_ne.mpr c5
    have c5b1 : (t101 != 0) = true := bne_iff_ne.mpr c5
    obtain rfl := Option.some.inj H
    go_enter Tryd.func6, Tryd.ntmps6
    go_wp2_with (first | ((with_reducible refine gate_callee (f := 30) rfl ?_); refine goesL_ (some 7) rfl rfl Tryd.func30 (by kernel_rfl) rfl #[.int .i64 a0] rfl tL ?_; (with_reducible refine (feature_Log.calls k a0 t101 t102 _ A2.out).mono ?_); rintro e w9 ⟨rfl, hb⟩; refine ⟨_, rfl, ?_⟩; replace HB := Aside0.mk (below_step tB hb); (try clear hb); (try clear hb2); (try clear hk); (try clear hi)))
    go_ret
    exact ⟨by first | rfl | (simp [errW_none, errW_some] <;> rfl) | (simp [*, errW_none, errW_some] <;> rfl), tB⟩
  ·rw [if_neg c4] at H
   have c4b0 : (t102 == 2) = false := beq_eq_false_iff_ne.mpr c4
   have c4b1 : (t102 != 2) = true := bne_iff_ne.mpr c4
   obtain rfl := Option.some.inj H
   go_enter Tryd.func6, Tryd.ntmps6
   go_wp2_with (first | ((with_reducible refine gate_callee (f := 30) rfl ?_); refine goesL_ (some 7) rfl rfl Tryd.func30 (by kernel_rfl) rfl #[.int .i64 a0] rfl tL ?_; (with_reducible refine (feature_Log.calls k a0 t101 t102 _ A2.out).mono ?_); rintro e w10 ⟨rfl, hb⟩; refine ⟨_, rfl, ?_⟩; replace HB := Aside0.mk (below_step tB hb); (try clear hb); (try clear hb2); (try clear hk); (try clear hi)))
   go_ret
   exact ⟨by first | rfl | (simp [errW_none, errW_some] <;> rfl) | (simp [*, errW_none, errW_some] <;> rfl), tB⟩
 ·rw [if_neg c3] at H
  have c3b0 := decide_eq_false c3
  clear c3
  by_cases c11 : t102 = 0
  ·rw [if_pos c11] at H
   have c11b0 : (t102 == 0) = true := beq_iff_eq.mpr c11
   have c11b1 : (t102 != 0) = false := bne_eq_false_iff_eq.mpr c11
   clear c11
   replace H := Option.bind_eq_some_iff.mp H
   obtain ⟨t104, A120, H⟩ := H
   try dsimp only at H
   have A12 := Aside0.mk A120
   clear A120
   by_cases c13 : t101 = t104
   ·rw [if_pos c13] at H
    have c13b0 : (t101 == t104) = true := beq_iff_eq.mpr c13
    have c13b1 : (t101 != t104) = false := bne_eq_false_iff_eq.mpr c13
    clear c13
    replace H := Option.bind_eq_some_iff.mp H
    obtain ⟨t105, A140, H⟩ := H
    try dsimp only at H
    have A14 := Aside0.mk A140
    clear A140
    obtain rfl := Option.some.inj H
    go_enter Tryd.func6, Tryd.ntmps6
    go_wp2_with (first | ((with_reducible refine gate_callee (f := 30) rfl ?_); refine goesL_ (some 7) rfl rfl Tryd.func30 (by kernel_rfl) rfl #[.int .i64 a0] rfl tL ?_; (with_reducible refine (feature_Log.calls k a0 t101 t102 _ A2.out).mono ?_); rintro e w15 ⟨rfl, hb⟩; refine ⟨_, rfl, ?_⟩; replace HB := Aside0.mk (below_step tB hb); (try clear hb); (try clear hb2); (try clear hk); (try clear hi)) | (go_at_call 31; (with_reducible refine (earshotref03_Log.calls k a0 t104 _ A12.out).mono ?_); rintro e w16 ⟨rfl, hb⟩; replace HB := Aside0.mk (below_step tB hb); (try clear hb); (try clear hb2); (try clear hk); (try clear hi)) | (go_at_call 22; (with_reducible refine (earshotlaw03_known.calls k  t105 _ ?side1 A14.out).mono ?_); (case side1 => exact tC (Kd.C_below HRT.out HB.out)); rintro e w17 ⟨rfl, hb⟩; replace HB := Aside0.mk (below_step tB hb); (try clear hb); (try clear hb2); (try clear hk); (try clear hi)))
    go_ret
    exact ⟨by first | rfl | (simp [errW_none, errW_some] <;> rfl) | (simp [*, errW_none, errW_some] <;> rfl), tB⟩
   ·rw [if_neg c13] at H
    have c13b0 : (t101 == t104) = false := beq_eq_false_iff_ne.mpr c13
    have c13b1 : (t101 != t104) = true := bne_iff_ne.mpr c13
    obtain rfl := Option.some.inj H
    go_enter Tryd.func6, Tryd.ntmps6
    go_wp2_with (first | ((with_reducible refine gate_callee (f := 30) rfl ?_); refine goesL_ (some 7) rfl rfl Tryd.func30 (by kernel_rfl) rfl #[.int .i64 a0] rfl tL ?_; (with_reducible refine (feature_Log.calls k a0 t101 t102 _ A2.out).mono ?_); rintro e w18 ⟨rfl, hb⟩; refine ⟨_, rfl, ?_⟩; replace HB := Aside0.mk (below_step tB hb); (try clear hb); (try clear hb2); (try clear hk); (try clear hi)) | (go_at_call 31; (with_reducible refine (earshotref03_Log.calls k a0 t104 _ A12.out).mono ?_); rintro e w19 ⟨rfl, hb⟩; replace HB := Aside0.mk (below_step tB hb); (try clear hb); (try clear hb2); (try clear hk); (try clear hi)))
    go_ret
    exact ⟨by first | rfl | (simp [errW_none, errW_some] <;> rfl) | (simp [*, errW_none, errW_some] <;> rfl), tB⟩
  ·rw [if_neg c11] at H
   have c11b0 : (t102 == 0) = false := beq_eq_false_iff_ne.mpr c11
   have c11b1 : (t102 != 0) = true := bne_iff_ne.mpr c11
   obtain rfl := Option.some.inj H
   go_enter Tryd.func6, Tryd.ntmps6
   go_wp2_with (first | ((with_reducible refine gate_callee (f := 30) rfl ?_); refine goesL_ (some 7) rfl rfl Tryd.func30 (by kernel_rfl) rfl #[.int .i64 a0] rfl tL ?_; (with_reducible refine (feature_Log.calls k a0 t101 t102 _ A2.out).mono ?_); rintro e w20 ⟨rfl, hb⟩; refine ⟨_, rfl, ?_⟩; replace HB := Aside0.mk (below_step tB hb); (try clear hb); (try clear hb2); (try clear hk); (try clear hi)))
   go_ret
   exact ⟨by first | rfl | (simp [errW_none, errW_some] <;> rfl) | (simp [*, errW_none, errW_some] <;> rfl), tB⟩

/-- THE ONE PURE STATEMENT of earshotlaw03_FeatureLogs: yours. -/
def earshotlaw03_FeatureLogs.Pure : Prop := ∀ (a0 : Int), (Lit.int .i64 a0).wf = true → ∃ k, earshotlaw03_FeatureLogs.f k a0 = some true
theorem earshotlaw03_FeatureLogs.walk (P : earshotlaw03_FeatureLogs.Pure) (a0 : Int) (w : World) (ht : Kd.C (Kd.int .i64) w (some ⟨0, 0, none⟩) 65 tabL) (w0 : (Lit.int .i64 a0).wf = true) :
  Calls Tryd.prog 6 #[.int .i64 a0] w fun e w' => e = .returned (.bool true) ∧ Below w.heap.size w w' := by
 obtain ⟨k, h⟩ := P a0 w0
 refine (earshotlaw03_FeatureLogs.calls k a0 true w ht h).mono ?_
 rintro e w' ⟨rfl, hd⟩
 exact ⟨rfl, hd⟩

/-! ### earshotref03_Length: function 24 -/
def earshotref03_Length.f (a0 : Int) : Option (Bool) := if a0 = 1 then (some true) else (if a0 = 2 then (some true) else (if a0 = 4 then (some true) else (if a0 = 8 then (some true) else (if a0 = 16 then (some true) else (if a0 = 32 then (some true) else (some (a0 == 64)))))))
set_option maxHeartbeats 8000000 in
set_option maxRecDepth 100000 in
theorem earshotref03_Length.calls (a0 : Int) (r : Bool) (w : World) (h : earshotref03_Length.f a0 = some r) :
  Calls Tryd.prog 24 #[.int .i64 a0] w fun e w' => e = .returned (.bool r) ∧ Drawn0 w w' := by
 have H : (if a0 = 1 then (some true) else (if a0 = 2 then (some true) else (if a0 = 4 then (some true) else (if a0 = 8 then (some true) else (if a0 = 16 then (some true) else (if a0 = 32 then (some true) else (some (a0 == 64)))))))) = some r := h
 clear h
 by_cases c2 : a0 = 1
 ·rw [if_pos c2] at H
  have c2b0 : (a0 == 1) = true := beq_iff_eq.mpr c2
  have c2b1 : (a0 != 1) = false := bne_eq_false_iff_eq.mpr c2
  clear c2
  obtain rfl := Option.some.inj H
  go_enter Tryd.func24, Tryd.ntmps24
  go_wp2
  go_ret
  exact ⟨by first | rfl | (simp; done) | (simp [*]; done), by repeat (first | exact Drawn0.refl _ | apply Drawn0.step)⟩
 ·rw [if_neg c2] at H
  have c2b0 : (a0 == 1) = false := beq_eq_false_iff_ne.mpr c2
  have c2b1 : (a0 != 1) = true := bne_iff_ne.mpr c2
  by_cases c3 : a0 = 2
  ·rw [if_pos c3] at H
   have c3b0 : (a0 == 2) = true := beq_iff_eq.mpr c3
   have c3b1 : (a0 != 2) = false := bne_eq_false_iff_eq.mpr c3
   clear c3
   obtain rfl := Option.some.inj H
   go_enter Tryd.func24, Tryd.ntmps24
   go_wp2
   go_ret
   exact ⟨by first | rfl | (simp; done) | (simp [*]; done), by repeat (first | exact Drawn0.refl _ | apply Drawn0.step)⟩
  ·rw [if_neg c3] at H
   have c3b0 : (a0 == 2) = false := beq_eq_false_iff_ne.mpr c3
   have c3b1 : (a0 != 2) = true := bne_iff_ne.mpr c3
   by_cases c4 : a0 = 4
   ·rw [if_pos c4] at H
    have c4b0 : (a0 == 4) = true := beq_iff_eq.mpr c4
    have c4b1 : (a0 != 4) = false := bne_eq_false_iff_eq.mpr c4
    clear c4
    obtain rfl := Option.some.inj H
    go_enter Tryd.func24, Tryd.ntmps24
    go_wp2
    go_ret
    exact ⟨by first | rfl | (simp; done) | (simp [*]; done), by repeat (first | exact Drawn0.refl _ | apply Drawn0.step)⟩
   ·rw [if_neg c4] at H
    have c4b0 : (a0 == 4) = false := beq_eq_false_iff_ne.mpr c4
    have c4b1 : (a0 != 4) = true := bne_iff_ne.mpr c4
    by_cases c5 : a0 = 8
    ·rw [if_pos c5] at H
     have c5b0 : (a0 == 8) = true := beq_iff_eq.mpr c5
     have c5b1 : (a0 != 8) = false := bne_eq_false_iff_eq.mpr c5
     clear c5
     obtain rfl := Option.some.inj H
     go_enter Tryd.func24, Tryd.ntmps24
     go_wp2
     go_ret
     exact ⟨by first | rfl | (simp; done) | (simp [*]; done), by repeat (first | exact Drawn0.refl _ | apply Drawn0.step)⟩
    ·rw [if_neg c5] at H
     have c5b0 : (a0 == 8) = false := beq_eq_false_iff_ne.mpr c5
     have c5b1 : (a0 != 8) = true := bne_iff_ne.mpr c5
     by_cases c6 : a0 = 16
     ·rw [if_pos c6] at H
      have c6b0 : (a0 == 16) = true := beq_iff_eq.mpr c6
      have c6b1 : (a0 != 16) = false := bne_eq_false_iff_eq.mpr c6
      clear c6
      obtain rfl := Option.some.inj H
      go_enter Tryd.func24, Tryd.ntmps24
      go_wp2
      go_ret
      exact ⟨by first | rfl | (simp; done) | (simp [*]; done), by repeat (first | exact Drawn0.refl _ | apply Drawn0.step)⟩
     ·rw [if_neg c6] at H
      have c6b0 : (a0 == 16) = false := beq_eq_false_iff_ne.mpr c6
      have c6b1 : (a0 != 16) = true := bne_iff_ne.mpr c6
      by_cases c7 : a0 = 32
      ·rw [if_pos c7] at H
       have c7b0 : (a0 == 32) = true := beq_iff_eq.mpr c7
       have c7b1 : (a0 != 32) = false := bne_eq_false_iff_eq.mpr c7
       clear c7
       obtain rfl := Option.some.inj H
       go_enter Tryd.func24, Tryd.ntmps24
       go_wp2
       go_ret
       exact ⟨by first | rfl | (simp; done) | (simp [*]; done), by repeat (first | exact Drawn0.refl _ | apply Drawn0.step)⟩
      ·rw [if_neg c7] at H
       have c7b0 : (a0 == 32) = false := beq_eq_false_iff_ne.mpr c7
       have c7b1 : (a0 != 32) = true := bne_iff_ne.mpr c7
       obtain rfl := Option.some.inj H
       go_enter Tryd.func24, Tryd.ntmps24
       go_wp2
       go_ret
       exact ⟨by first | rfl | (simp; done) | (simp [*]; done), by repeat (first | exact Drawn0.refl _ | apply Drawn0.step)⟩

/-! ### earshotref02_All: function 25 -/
def earshotref02_All.l0 : Nat → List Int → Int → Int → Int → Option (Bool)
 | 0, _, _, _, _ => none
 | k + 1, x0, x1, x2, x7 => if x7 < (x0.length : Int) then (if 0 ≤ x7 then (if (rd x0 x7) < x1 then (some false) else (if (rd x0 x7) > x2 then (some false) else (earshotref02_All.l0 k x0 x1 x2 (wrap64 (x7 + 1))))) else (none)) else (some true)
def earshotref02_All.f (k : Nat) (l0 : List Int) (a1 : Int) (a2 : Int) : Option (Bool) := earshotref02_All.l0 k l0 a1 a2 0
theorem earshotref02_All.mono_l : ∀ k, (∀ y0 y1 y2 y3, LeO (earshotref02_All.l0 k y0 y1 y2 y3) (earshotref02_All.l0 (k + 1) y0 y1 y2 y3))
 | 0 => fun _ _ _ _ r h => by simp [earshotref02_All.l0] at h
 | k + 1 => by
  have ih0 := earshotref02_All.mono_l k
  ·intro y0 y1 y2 y3
   unfold earshotref02_All.l0
   repeat' first
   | (with_reducible exact ih0 _ _ _ _)
   | (with_reducible exact LeO.refl _)
   | (with_reducible exact LeO.none _)
   | (with_reducible refine LeO.ite ?_ ?_)
   | (with_reducible refine LeO.bind ?_ (fun _ => ?_))
   | exact ih0 _ _ _ _
   | exact LeO.none _
   | refine LeO.ite ?_ ?_
   | refine LeO.bind ?_ (fun _ => ?_)
theorem earshotref02_All.mono : ∀ a0 a1 a2 k, LeO (earshotref02_All.f k a0 a1 a2) (earshotref02_All.f (k + 1) a0 a1 a2) := by
 intro a0 a1 a2 k
 have ih0 := earshotref02_All.mono_l k
 unfold earshotref02_All.f
 repeat' first
   | (with_reducible exact ih0 _ _ _ _)
   | (with_reducible exact LeO.refl _)
   | (with_reducible exact LeO.none _)
   | (with_reducible refine LeO.ite ?_ ?_)
   | (with_reducible refine LeO.bind ?_ (fun _ => ?_))
   | exact ih0 _ _ _ _
   | exact LeO.none _
   | refine LeO.ite ?_ ?_
   | refine LeO.bind ?_ (fun _ => ?_)
set_option maxHeartbeats 8000000 in
set_option maxRecDepth 100000 in
theorem earshotref02_All.calls (k : Nat) (A0 : Option Addr) (c0 : Nat) (l0 : List Int) (a1 : Int) (a2 : Int) (r : Bool) (w : World) (hr0 : Kd.C (Kd.int .i64) w A0 l0.length l0) (hc0 : l0.length ≤ c0) (h : earshotref02_All.f k l0 a1 a2 = some r) :
  Calls Tryd.prog 25 #[.slice A0 l0.length c0, .int .i64 a1, .int .i64 a2] w fun e w' => e = .returned (.bool r) ∧ Drawn0 w w' := by
 have HR0 := Aside0.mk hr0
 have HC0 := Aside0.mk hc0
 clear hr0 hc0
 have H : (earshotref02_All.l0 k l0 a1 a2 0) = some r := h
 clear h
 have H' := Aside0.mk H
 clear H
 go_enter Tryd.func25, Tryd.ntmps25
 go_wp2
 go_loopg [7] k (fun kq v7 w' => ∃ (x7_1 : Int), v7 = .int .i64 x7_1 ∧ Aside0 (earshotref02_All.l0 kq l0 a1 a2 x7_1 = some r) ∧ Aside0 (kq ≤ k) ∧ Drawn0 w w')
 case atStart => exact ⟨(0), (by first | rfl | (simp; done) | (simp only [i64_w]; done) | (simp [*]; done)), H', ⟨Nat.le_refl _⟩, by repeat (first | exact Drawn0.refl _ | apply Drawn0.step)⟩
 case round =>
  clear H'
  try clear c2
  try clear p2
  obtain ⟨x7_1, rfl, HA, HK1, ⟨m1, rfl⟩⟩ := hrel
  cases gk with
  | zero => exact absurd HA.out (by simp [earshotref02_All.l0])
  | succ k1 =>
   have H := HA.out
   clear HA
   simp only [earshotref02_All.l0] at H
   by_cases c4 : x7_1 < (l0.length : Int)
   ·rw [if_pos c4] at H
    have c4b0 := decide_eq_true c4
    clear c4
    by_cases c5 : 0 ≤ x7_1
    ·rw [if_pos c5] at H
     have c5b0 := decide_eq_true c5
     clear c5
     by_cases c6 : (rd l0 x7_1) < a1
     ·rw [if_pos c6] at H
      have c6b0 := decide_eq_true c6
      clear c6
      obtain rfl := Option.some.inj H
      have p101 : 0 ≤ (x7_1 : Int) := of_decide_eq_true tA
      have q101 : x7_1 < (l0.length : Int) := of_decide_eq_true tA
      obtain ⟨ad101, e101, hx101_0⟩ := Kd.at_int HR0.out x7_1 p101 q101
      cases e101
      replace p101 := eq_true p101
      replace q101 := eq_true q101
      go_wp2
      go_ret
      exact ⟨by first | rfl | (simp; done) | (simp [*]; done), by repeat (first | exact Drawn0.refl _ | apply Drawn0.step)⟩
     ·rw [if_neg c6] at H
      have c6b0 := decide_eq_false c6
      clear c6
      by_cases c7 : (rd l0 x7_1) > a2
      ·rw [if_pos c7] at H
       have c7b0 : decide (a2 < (rd l0 x7_1)) = true := decide_eq_true c7
       clear c7
       obtain rfl := Option.some.inj H
       have p101 : 0 ≤ (x7_1 : Int) := of_decide_eq_true tA
       have q101 : x7_1 < (l0.length : Int) := of_decide_eq_true tA
       obtain ⟨ad101, e101, hx101_0⟩ := Kd.at_int HR0.out x7_1 p101 q101
       cases e101
       replace p101 := eq_true p101
       replace q101 := eq_true q101
       have p102 : 0 ≤ (x7_1 : Int) := of_decide_eq_true tA
       have q102 : x7_1 < (l0.length : Int) := of_decide_eq_true tA
       obtain ⟨ad102, e102, hx102_0⟩ := Kd.at_int HR0.out x7_1 p102 q102
       obtain rfl : ad101 = ad102 := (by injection e102)
       replace p102 := eq_true p102
       replace q102 := eq_true q102
       go_wp2
       go_ret
       exact ⟨by first | rfl | (simp; done) | (simp [*]; done), by repeat (first | exact Drawn0.refl _ | apply Drawn0.step)⟩
      ·rw [if_neg c7] at H
       have c7b0 : decide (a2 < (rd l0 x7_1)) = false := decide_eq_false c7
       clear c7
       have H' := Aside0.mk H
       clear H
       have p101 : 0 ≤ (x7_1 : Int) := of_decide_eq_true tA
       have q101 : x7_1 < (l0.length : Int) := of_decide_eq_true tA
       obtain ⟨ad101, e101, hx101_0⟩ := Kd.at_int HR0.out x7_1 p101 q101
       cases e101
       replace p101 := eq_true p101
       replace q101 := eq_true q101
       have p102 : 0 ≤ (x7_1 : Int) := of_decide_eq_true tA
       have q102 : x7_1 < (l0.length : Int) := of_decide_eq_true tA
       obtain ⟨ad102, e102, hx102_0⟩ := Kd.at_int HR0.out x7_1 p102 q102
       obtain rfl : ad101 = ad102 := (by injection e102)
       replace p102 := eq_true p102
       replace q102 := eq_true q102
       go_wp2
       go_roundg k1
       case measure => have := HK1.out; omega
       case rel => exact ⟨(wrap64 (x7_1 + 1)), (by first | rfl | (simp; done) | (simp only [i64_w]; done) | (simp [*]; done)), H', ⟨by have := HK1.out; omega⟩, by repeat (first | exact Drawn0.refl _ | apply Drawn0.step)⟩
    ·rw [if_neg c5] at H
     exact absurd H (by simp)
   ·rw [if_neg c4] at H
    have c4b0 := decide_eq_false c4
    clear c4
    obtain rfl := Option.some.inj H
    go_wp2
    go_ret
    exact ⟨by first | rfl | (simp; done) | (simp [*]; done), by repeat (first | exact Drawn0.refl _ | apply Drawn0.step)⟩

end Go.Proofs.YtdlbmbijobcljaaDoor.X
