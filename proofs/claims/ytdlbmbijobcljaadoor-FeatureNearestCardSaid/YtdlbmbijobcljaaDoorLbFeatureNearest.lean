/- FeatureNearest: for every input whatever the law returns true, and each argument reads behind the call as it read before. Conditions: those of the row: the listed variable earshot/api.Cosines reads as laid, which the card ties to the program's text. By a program of this session's own (wip/print/gen_row2.py). -/
import Derived.Test.YtdlbmbijobcljaaDoorLaFeatureNearest
import Derived.Test.YtdlbmbijobcljaaDoorMA
import Derived.Test.YtdlbmbijobcljaaDoorMB
import Derived.Test.YtdlbmbijobcljaaDoorMK
import Derived.Test.YtdlbmbijobcljaaDoorRows
import Derived.Deep.Matrix
import Derived.ProofKit
import Derived.OpenShut
import Derived.Test.YtdlbmbijobcljaaDoorCards
import Derived.Test.YtdlbmbijobcljaaDoorMJ
import Derived.Test.YtdlbmbijobcljaaDoorHJoinedE
import Derived.Test.YtdlbmbijobcljaaDoorTie
import Derived.LaidMore
import Derived.Stop.Joined
import Derived.SevenTiedAt
import Derived.WalkKit
import Derived.ShutString
import Derived.ChangeOld
import Derived.Below
import Derived.SizedLaws
import Derived.Test.YtdlbmbijobcljaaDoorVA
namespace Go.Proofs.YtdlbmbijobcljaaDoor.Pure
open Go.RowKit Go.Proofs.YtdlbmbijobcljaaDoor.X Go.Proofs.YtdlbmbijobcljaaDoorW.PrintWords Go.Proofs.YtdlbmbijobcljaaDoorW.PrintLast
set_option linter.unusedVariables false
set_option linter.unusedSimpArgs false
set_option linter.unusedSectionVars false
/-- The sum of row j of the transform, its first m terms; q = 64/n. -/
def trSum (l : List Int) (q : Int) (j : Nat) : Nat → Int
  | 0 => 0
  | m + 1 => trSum l q j m + rd l (m : Int) * cosv ((2 * (m : Int) + 1) * (j : Int) * q)
theorem trSum_bound (l : List Int) (h : ∀ x ∈ l, -65536 ≤ x ∧ x ≤ 65536) (q : Int) (j m : Nat) : -(1073741824 * (m : Int)) ≤ trSum l q j m ∧ trSum l q j m ≤ 1073741824 * (m : Int) := by
  induction m with
  | zero => simp [trSum]
  | succ m ih =>
    have h1 := rd_bound l 65536 (by omega) h (m : Int)
    have h2 := cosv_range ((2 * (m : Int) + 1) * (j : Int) * q)
    have h3 := mul_bound (rd l (m : Int)) (cosv ((2 * (m : Int) + 1) * (j : Int) * q)) 65536 16384 (by omega) (by omega) h2.1 h2.2
    simp only [trSum]
    omega
def trAt (l : List Int) (n j : Nat) : Int := trSum l ((64 : Int) / n) j n
def trList (l : List Int) (n j : Nat) : List Int := (List.range j).map (trAt l n) ++ List.replicate (n - j) 0
theorem trList_length (l : List Int) (n j : Nat) (h : j ≤ n) : (trList l n j).length = n := by simp [trList]; omega
theorem trList_set (l : List Int) (n j : Nat) (h : j < n) : (trList l n j).set j (trAt l n j) = trList l n (j + 1) := by
  unfold trList
  rw [List.range_succ, List.map_append, List.set_append_right _ _ (by simp)]
  simp only [List.length_map, List.length_range, Nat.sub_self, List.map_cons, List.map_nil, List.append_assoc]
  congr 1
  rw [show n - j = (n - (j + 1)) + 1 by omega, List.replicate_succ]
  rfl
theorem trList_set0 (l : List Int) (n j : Nat) (h : j < n) : (trList l n j).set j 0 = trList l n j := by
  unfold trList
  rw [List.set_append_right _ _ (by simp)]
  simp only [List.length_map, List.length_range, Nat.sub_self]
  congr 1
  rw [show n - j = (n - (j + 1)) + 1 by omega, List.replicate_succ]
  rfl
theorem rd_set (y : List Int) (j : Nat) (h : j < y.length) (a : Int) : rd (y.set j a) (j : Int) = a := by
  rw [rd_nat, List.getD_eq_getElem?_getD, List.getElem?_set, if_pos rfl, if_pos h]; rfl
section
variable (l : List Int) (n : Nat) (hn : isLen n = true) (hl : l.length = n) (h : ∀ x ∈ l, -65536 ≤ x ∧ x ≤ 65536)
include hn hl h
theorem tr_term (j m : Nat) : wrap64 (trSum l ((64 : Int) / n) j m + wrap64 (rd l (m : Int) * cosv ((2 * (m : Int) + 1) * (j : Int) * ((64 : Int) / n)))) = trSum l ((64 : Int) / n) j (m + 1) ∨ 64 < m := by
  by_cases hm : 64 < m
  · exact .inr hm
  · left
    have h1 := rd_bound l 65536 (by omega) h (m : Int)
    have h2 := cosv_range ((2 * (m : Int) + 1) * (j : Int) * ((64 : Int) / n))
    have h3 := mul_bound (rd l (m : Int)) (cosv ((2 * (m : Int) + 1) * (j : Int) * ((64 : Int) / n))) 65536 16384 (by omega) (by omega) h2.1 h2.2
    have h4 := trSum_bound l h ((64 : Int) / n) j m
    rw [w64 (n := rd l (m : Int) * _) (by omega) (by omega), w64 (by omega) (by omega)]
    rfl
theorem tr_row (j : Nat) (hj : j < n) (y : List Int) (hy : y.length = n) (R : List Int) (hR : Ev (fun k => feature_transform.l0 k l (n : Int) (y.set j (trAt l n j)) (n : Int) ((j + 1 : Nat) : Int)) R) :
    ∀ r m : Nat, m + r = n → Ev (fun k => feature_transform.l1 k l (n : Int) (y.set j (trSum l ((64 : Int) / n) j m)) (j : Int) (n : Int) (j : Int) l (n : Int) (m : Int)) R := by
  obtain ⟨n0, n1, n2, n3, n4⟩ := isLen_dvd n hn
  intro r
  induction r with
  | zero =>
    intro m hm
    obtain rfl : m = n := by omega
    refine Ev.step (fun k => ?_) hR
    simp only [feature_transform.l1]
    rw [if_neg (by omega), w64 (by omega) (by omega)]
    rfl
  | succ r ih =>
    intro m hm
    have h1 := ih (m + 1) (by omega)
    refine Ev.step (fun k => ?_) h1
    simp only [feature_transform.l1]
    have hx : (if (n : Int) = 0 then (none : Option Int) else feature_cosine.f (wrap64 (Int.tdiv (wrap64 ((wrap64 ((wrap64 ((wrap64 (2 * (m : Int))) + 1)) * (j : Int))) * 64)) (n : Int)))) = some (cosv ((2 * (m : Int) + 1) * (j : Int) * ((64 : Int) / n))) := inv_index n m j ((64 : Int) / n) n0 n2 n1 (by omega) hj
    rw [if_neg (by omega)] at hx
    rw [if_pos (by omega), if_pos (by omega), if_pos (by omega), if_pos (by omega), if_pos (by rw [List.length_set]; omega), if_neg (by omega), hx, Option.bind_some, rd_set _ _ (by omega), Int.toNat_natCast, List.set_set]
    rcases tr_term l n hn hl h j m with ht | ht
    · rw [ht, w64 (by omega) (by omega), show (m : Int) + 1 = ((m + 1 : Nat) : Int) by omega]
    · omega
theorem tr_loop : ∀ r j : Nat, j + r = n → Ev (fun k => feature_transform.l0 k l (n : Int) (trList l n j) (n : Int) (j : Int)) (trList l n n) := by
  obtain ⟨n0, n1, n2, n3, n4⟩ := isLen_dvd n hn
  intro r
  induction r with
  | zero =>
    intro j hj
    refine Ev.step (f := fun _ => some (trList l n n)) (fun k => ?_) (Ev.now _)
    simp only [feature_transform.l0]
    rw [if_neg (by omega), show j = n by omega]
  | succ r ih =>
    intro j hj
    have h1 := ih (j + 1) (by omega)
    rw [← trList_set l n j (by omega)] at h1
    have h2 := tr_row l n hn hl h j (by omega) (trList l n j) (trList_length l n j (by omega)) _ h1 n 0 (by omega)
    rw [show trSum l ((64 : Int) / n) j 0 = 0 from rfl, trList_set0 l n j (by omega)] at h2
    refine Ev.step (fun k => ?_) h2
    simp only [feature_transform.l0]
    rw [if_pos (by omega), hl]
    rfl
theorem transform_ev : Ev (fun k => feature_transform.f k l) (trList l n n) := by
  obtain ⟨n0, n1, n2, n3, n4⟩ := isLen_dvd n hn
  refine Ev.congr (fun k => ?_) (tr_loop l n hn hl h n 0 (by omega))
  unfold feature_transform.f
  rw [if_pos (by omega), if_pos (by omega), Option.bind_some, List.length_replicate, hl, Int.toNat_natCast]
  rfl
theorem tr_row' (j : Nat) (hj : j < n) (y : List Int) (hy : y.length = n) (R : List Int) (hR : Ev (fun k => earshotref03_Transform.l0 k l (n : Int) (y.set j (trAt l n j)) ((j + 1 : Nat) : Int)) R) :
    ∀ r m : Nat, m + r = n → Ev (fun k => earshotref03_Transform.l1 k l (n : Int) (y.set j (trSum l ((64 : Int) / n) j m)) (j : Int) (m : Int)) R := by
  obtain ⟨n0, n1, n2, n3, n4⟩ := isLen_dvd n hn
  intro r
  induction r with
  | zero =>
    intro m hm
    obtain rfl : m = n := by omega
    refine Ev.step (fun k => ?_) hR
    simp only [earshotref03_Transform.l1]
    rw [if_neg (by omega), w64 (by omega) (by omega)]
    rfl
  | succ r ih =>
    intro m hm
    have h1 := ih (m + 1) (by omega)
    refine Ev.step (fun k => ?_) h1
    simp only [earshotref03_Transform.l1]
    have hx := inv_index' n m j ((64 : Int) / n) n0 (by omega) n4 n1 (by omega) hj
    rw [if_pos (by omega), if_pos (by omega), if_pos (by rw [List.length_set]; omega), if_pos (by omega), if_pos (by omega), if_neg (by omega), hx, Option.bind_some, rd_set _ _ (by omega), Int.toNat_natCast, List.set_set]
    rcases tr_term l n hn hl h j m with ht | ht
    · rw [ht, w64 (by omega) (by omega), show (m : Int) + 1 = ((m + 1 : Nat) : Int) by omega]
    · omega
theorem tr_loop' : ∀ r j : Nat, j + r = n → Ev (fun k => earshotref03_Transform.l0 k l (n : Int) (trList l n j) (j : Int)) (trList l n n) := by
  obtain ⟨n0, n1, n2, n3, n4⟩ := isLen_dvd n hn
  intro r
  induction r with
  | zero =>
    intro j hj
    refine Ev.step (f := fun _ => some (trList l n n)) (fun k => ?_) (Ev.now _)
    simp only [earshotref03_Transform.l0]
    rw [if_neg (by omega), show j = n by omega]
  | succ r ih =>
    intro j hj
    have h1 := ih (j + 1) (by omega)
    rw [← trList_set l n j (by omega)] at h1
    have h2 := tr_row' l n hn hl h j (by omega) (trList l n j) (trList_length l n j (by omega)) _ h1 n 0 (by omega)
    rw [show trSum l ((64 : Int) / n) j 0 = 0 from rfl, trList_set0 l n j (by omega)] at h2
    refine Ev.step (fun k => ?_) h2
    simp only [earshotref03_Transform.l0]
    rw [if_pos (by omega)]
    rfl
theorem ref_transform_ev : Ev (fun k => earshotref03_Transform.f k l) (trList l n n) := by
  obtain ⟨n0, n1, n2, n3, n4⟩ := isLen_dvd n hn
  refine Ev.congr (fun k => ?_) (tr_loop' l n hn hl h n 0 (by omega))
  unfold earshotref03_Transform.f
  rw [if_pos (by omega), if_pos (by omega), hl, Int.toNat_natCast]
  rfl
theorem within_ok : feature_within.f l 65536 = some true := by
  rw [within_at _ _ (by omega) (by omega)]
  congr 1
  unfold allIn
  rw [List.all_eq_true]
  intro x hx
  have := h x hx
  simp; omega
theorem Transform_ok : Ev (fun k => feature_Transform.f k l) (trList l n n, 0) := by
  refine Ev.congr (f := fun k => (feature_transform.f k l).bind fun t103 => some (t103, 0)) (fun k => ?_) (Ev.bind (transform_ev l n hn hl h) (Ev.now _))
  unfold feature_Transform.f
  rw [hl, possible_at, hn, Option.bind_some, if_pos rfl, within_ok l n hn hl h, Option.bind_some, if_pos rfl]
end
theorem Transform_bad (l : List Int) (h : isLen l.length = false ∨ allIn l (-65536) 65536 = false) (k : Nat) : feature_Transform.f k l = some ([], 2) := by
  unfold feature_Transform.f
  rw [possible_at, Option.bind_some]
  cases hp : isLen l.length with
  | false => rw [if_neg (by simp)]
  | true =>
    rcases h with h | h
    · rw [hp] at h; cases h
    · rw [if_pos rfl, within_at _ _ (by omega) (by omega), h, Option.bind_some]
      rfl
end Go.Proofs.YtdlbmbijobcljaaDoor.Pure

namespace Go.Proofs.YtdlbmbijobcljaaDoor.X
open Go.RowKit Go.Proofs.YtdlbmbijobcljaaDoorW.PrintWords Go.Proofs.YtdlbmbijobcljaaDoorW.PrintLast Go.Proofs.YtdlbmbijobcljaaDoorW.PrintMore
attribute [local go_sem] max2_int min2_int max_two min_two max_three min_three max_four min_four   -- for this text's walks alone
set_option linter.unusedVariables false
set_option linter.unusedSimpArgs false
/-! ### earshotref03_Spectrum: function 54 -/
def earshotref03_Spectrum.l0 : Nat → List Int → List Int → Int → Option (List Int)
 | 0, _, _, _ => none
 | k + 1, x3, x4, x5 => if x5 < (x3.length : Int) then (if 0 ≤ x5 then ((earshotref02_Round.f k (rd x3 x5) 16384).bind fun t108 => (if x5 < (x4.length : Int) then (earshotref03_Spectrum.l0 k x3 (x4.set (x5 : Int).toNat t108) (wrap64 (x5 + 1))) else (none))) else (none)) else (some x4)
def earshotref03_Spectrum.f (k : Nat) (l0 : List Int) : Option (List Int) := (earshotref03_Transform.f k l0).bind fun t101 => (if 0 ≤ (t101.length : Int) then (if ((t101.length : Int) : Int).toNat ≤ 35184372088832 then (earshotref03_Spectrum.l0 k t101 (List.replicate ((t101.length : Int) : Int).toNat 0) 0) else (none)) else (none))
theorem earshotref03_Spectrum.mono_l : ∀ k, (∀ y0 y1 y2, LeO (earshotref03_Spectrum.l0 k y0 y1 y2) (earshotref03_Spectrum.l0 (k + 1) y0 y1 y2))
 | 0 => fun _ _ _ r h => by simp [earshotref03_Spectrum.l0] at h
 | k + 1 => by
  have ih0 := earshotref03_Spectrum.mono_l k
  ·intro y0 y1 y2
   unfold earshotref03_Spectrum.l0
   repeat' first
   | (with_reducible exact ih0 _ _ _)
   | (with_reducible exact earshotref02_Round.mono _ _ _)
   | (with_reducible exact earshotref03_Transform.mono _ _)
   | (with_reducible exact LeO.refl _)
   | (with_reducible exact LeO.none _)
   | (with_reducible refine LeO.ite ?_ ?_)
   | (with_reducible refine LeO.bind ?_ (fun _ => ?_))
   | exact ih0 _ _ _
   | exact earshotref02_Round.mono _ _ _
   | exact earshotref03_Transform.mono _ _
   | exact LeO.none _
   | refine LeO.ite ?_ ?_
   | refine LeO.bind ?_ (fun _ => ?_)
theorem earshotref03_Spectrum.mono : ∀ a0 k, LeO (earshotref03_Spectrum.f k a0) (earshotref03_Spectrum.f (k + 1) a0) := by
 intro a0 k
 have ih0 := earshotref03_Spectrum.mono_l k
 unfold earshotref03_Spectrum.f
 repeat' first
   | (with_reducible exact ih0 _ _ _)
   | (with_reducible exact earshotref02_Round.mono _ _ _)
   | (with_reducible exact earshotref03_Transform.mono _ _)
   | (with_reducible exact LeO.refl _)
   | (with_reducible exact LeO.none _)
   | (with_reducible refine LeO.ite ?_ ?_)
   | (with_reducible refine LeO.bind ?_ (fun _ => ?_))
   | exact ih0 _ _ _
   | exact earshotref02_Round.mono _ _ _
   | exact earshotref03_Transform.mono _ _
   | exact LeO.none _
   | refine LeO.ite ?_ ?_
   | refine LeO.bind ?_ (fun _ => ?_)
set_option maxHeartbeats 8000000 in
set_option maxRecDepth 100000 in
theorem earshotref03_Spectrum.calls (k : Nat) (A0 : Option Addr) (c0 : Nat) (l0 : List Int) (r : List Int) (w : World) (ht : Kd.C (Kd.int .i64) w (some ⟨0, 0, none⟩) 65 tabL) (hr0 : Kd.C (Kd.int .i64) w A0 l0.length l0) (hc0 : l0.length ≤ c0) (h : earshotref03_Spectrum.f k l0 = some r) :
  Calls Tryd.prog 54 #[.slice A0 l0.length c0] w fun e w' => ∃ v0_ : Value, e = .returned (v0_) ∧ Kd.R (Kd.int .i64) 3 w' w.heap.size (fun _ => True) v0_ r ∧ Below w.heap.size w w' := by
 have HRT := Aside0.mk ht
 clear ht
 have HR0 := Aside0.mk hr0
 have HC0 := Aside0.mk hc0
 clear hr0 hc0
 have HB := Aside0.mk (Below.refl w.heap.size w)
 have H : ((earshotref03_Transform.f k l0).bind fun t101 => (if 0 ≤ (t101.length : Int) then (if ((t101.length : Int) : Int).toNat ≤ 35184372088832 then (earshotref03_Spectrum.l0 k t101 (List.replicate ((t101.length : Int) : Int).toNat 0) 0) else (none)) else (none))) = some r := h
 clear h
 replace H := Option.bind_eq_some_iff.mp H
 obtain ⟨t101, A20, H⟩ := H
 try dsimp only at H
 have A2 := Aside0.mk A20
 clear A20
 by_cases c3 : 0 ≤ (t101.length : Int)
 ·rw [if_pos c3] at H
  have c3b0 := eq_true c3
  have c3b1 := decide_eq_true c3
  clear c3
  by_cases c4 : ((t101.length : Int) : Int).toNat ≤ 35184372088832
  ·rw [if_pos c4] at H
   have c4b0 := eq_true c4
   have c4b1 := decide_eq_true c4
   clear c4
   obtain ⟨y104, hy104⟩ : ∃ y_ : List Int, y_ = (List.replicate ((t101.length : Int) : Int).toNat 0) := ⟨_, rfl⟩
   replace H : (earshotref03_Spectrum.l0 k t101 y104 0) = some r := by first | (rw [hy104]; with_reducible exact H) | (have H2_ := (Option.bind_some _ _).symm.trans H; rw [hy104]; with_reducible exact H2_) | (have H2_ := (Option.bind_some _ _).symm.trans H; with_reducible exact H2_) | with_reducible exact H | (rw [hy104]; exact H) | exact H
   have Ny104 := Aside0.mk hy104
   clear hy104
   have H' := Aside0.mk H
   clear H
   go_enter Tryd.func54, Tryd.ntmps54
   go_wp2_with (first | ((with_reducible refine gate_callee (f := 53) rfl ?_); refine goesL_ (some 7) rfl rfl Tryd.func53 (by kernel_rfl) rfl #[.slice A0 l0.length c0] rfl tL ?_; (with_reducible refine (earshotref03_Transform.calls k _ _ l0 t101 _ ?side3 ?side1 ?side2 A2.out).mono ?_); (case side1 => exact tC HR0.out); (case side2 => exact HC0.out); (case side3 => exact tC HRT.out); rintro e w5 ⟨v102, rfl, ho0, hb⟩; refine ⟨_, rfl, ?_⟩; have HO103 := Aside0.mk (Kd.R_lower ho0 (below_size tB)); replace HB := Aside0.mk (below_step tB hb); (try clear hb); (try clear hb2); (try clear hk); (try clear hi); (try clear ho0); obtain ⟨Ao6, co6, eo6⟩ := Kd.R_slice HO103.out; subst eo6) | ((with_reducible refine gate_dst (N := 10) rfl ?_); refine Kd.R_make (Kd.int .i64) _ 3 rfl (N := 10) rfl 22 _ _ rfl (t101.length : Int) rfl rfl Tryd.underlying22 (.int .i64 0) 8 info3 rfl (by decide) (by omega) 0 (ok := fun _ => True) (okp := fun _ => True) rfl (fun _ hk => hk) trivial (of_decide_eq_true tA) (Nat.le_trans (Nat.mul_le_mul_right _ (of_decide_eq_true tA : (t101.length : Int).toNat ≤ 35184372088832)) (by omega)) (Below.refl _ _) (Nat.le_refl _) ?_; intro v105 w7 ho8 hb hg_ hnew_; clear hg_ hnew_; (first | rw [← Ny104.out] at ho8 | (simp only [Int.reduceToNat] at ho8; rw [← Ny104.out] at ho8)); have HO106 := Aside0.mk (Kd.R_lower (Kd.R_new' ho8 (Kd.R_lt (tR HO103.out))) (below_size tB)); replace HO103 := Aside0.mk (Kd.R_elder' (tR HO103.out) (Kd.R_base ho8) hb); replace HB := Aside0.mk (below_step tB hb); clear hb ho8))
   go_loopg [5] k (fun kq v5 w' => ∃ (x4_1 : List Int) (x5_1 : Int), v5 = .int .i64 x5_1 ∧ Aside0 (earshotref03_Spectrum.l0 kq t101 x4_1 x5_1 = some r) ∧ Aside0 (kq ≤ k) ∧ Aside0 (Kd.R (Kd.int .i64) 3 w' w.heap.size (fun k_ => some k_ ≠ (v105 : Value).ownBlock) (.slice Ao6 t101.length co6) t101) ∧ Aside0 (Kd.R (Kd.int .i64) 3 w' w.heap.size (fun k_ => some k_ ≠ ((.slice Ao6 t101.length co6) : Value).ownBlock) v105 x4_1) ∧ Aside0 (Below w.heap.size w w'))
   case atStart => exact ⟨(y104), (0), (by first | rfl | (simp; done) | (simp only [i64_w]; done) | (simp [*]; done)), H', ⟨Nat.le_refl _⟩, ⟨by (with_reducible repeat (first | apply Kd.R_alloc | apply Kd.R_drewN | apply Kd.R_drew)); exact Kd.R_mono HO103.out (fun _ hk => hk.2)⟩, ⟨by (with_reducible repeat (first | apply Kd.R_alloc | apply Kd.R_drewN | apply Kd.R_drew)); exact Kd.R_mono HO106.out (fun _ hk => hk.2)⟩, ⟨tB⟩⟩
   case round =>
    clear H'
    try clear p2
    try clear c3
    try clear c3b0
    try clear c3b1
    try clear c4
    try clear c4b0
    try clear c4b1
    try clear c5
    obtain ⟨x4_1, x5_1, rfl, HA, HK1, HO_3, HO_4, HB⟩ := hrel
    cases gk with
    | zero => exact absurd HA.out (by simp [earshotref03_Spectrum.l0])
    | succ k1 =>
     have H := HA.out
     clear HA
     simp only [earshotref03_Spectrum.l0] at H
     by_cases c9 : x5_1 < (t101.length : Int)
     ·rw [if_pos c9] at H
      have c9b0 := decide_eq_true c9
      clear c9
      by_cases c10 : 0 ≤ x5_1
      ·rw [if_pos c10] at H
       have c10b0 := decide_eq_true c10
       clear c10
       replace H := Option.bind_eq_some_iff.mp H
       obtain ⟨t108, A110, H⟩ := H
       try dsimp only at H
       have A11 := Aside0.mk A110
       clear A110
       by_cases c12 : x5_1 < (x4_1.length : Int)
       ·rw [if_pos c12] at H
        have c12b0 := decide_eq_true c12
        clear c12
        obtain ⟨y109, hy109⟩ : ∃ y_ : List Int, y_ = (x4_1.set (x5_1 : Int).toNat t108) := ⟨_, rfl⟩
        replace H : (earshotref03_Spectrum.l0 k1 t101 y109 (wrap64 (x5_1 + 1))) = some r := by first | (rw [hy109]; with_reducible exact H) | (have H2_ := (Option.bind_some _ _).symm.trans H; rw [hy109]; with_reducible exact H2_) | (have H2_ := (Option.bind_some _ _).symm.trans H; with_reducible exact H2_) | with_reducible exact H | (rw [hy109]; exact H) | exact H
        have Ny109 := Aside0.mk hy109
        clear hy109
        have H' := Aside0.mk H
        clear H
        have p107 : 0 ≤ (x5_1 : Int) := of_decide_eq_true tA
        have q107 : x5_1 < (t101.length : Int) := of_decide_eq_true tA
        obtain ⟨ad107, e107, hx107_0⟩ := Kd.at_int (Kd.R_reads' HO_3.out).2.2 x5_1 p107 q107
        cases e107
        replace p107 := eq_true p107
        replace q107 := eq_true q107
        go_wp2_with (first | ((with_reducible refine gate_callee (f := 83) rfl ?_); refine goesL_ (some 23) rfl rfl Tryd.func83 (by kernel_rfl) rfl #[.int .i64 (rd t101 x5_1), .int .i64 16384] rfl tL ?_; (with_reducible refine (earshotref02_Round.calls k1 (rd t101 x5_1) 16384 t108 _ A11.out).mono ?_); rintro e w' ⟨rfl, ⟨nd, rfl⟩⟩; refine ⟨_, rfl, ?_⟩; (try (rw [drewN_self wr]; generalize hq_ : World.drewN wr _ = wr; have n0_ : Aside0 (Kd.R (Kd.int .i64) 3 wr w.heap.size (fun k_ => some k_ ≠ (v105 : Value).ownBlock) (.slice (some ad107) t101.length co6) t101) := ⟨by rw [← hq_]; exact (tR HO_3.out)⟩; have n1_ : Aside0 (Kd.R (Kd.int .i64) 3 wr w.heap.size (fun k_ => some k_ ≠ (.slice (some ad107) t101.length co6 : Value).ownBlock) v105 x4_1) := ⟨by rw [← hq_]; exact (tR HO_4.out)⟩; have n2_ : Aside0 (Below w.heap.size w wr) := ⟨by rw [← hq_]; exact tB⟩; clear HO_3 HO_4 HB hq_; have HO_3 := n0_; have HO_4 := n1_; have HB := n2_; clear n0_ n1_ n2_)); have p13 : 0 ≤ (x5_1 : Int) := of_decide_eq_true tA; have q13 : (x5_1 : Int) < ((x4_1.length : Int) : Int) := of_decide_eq_true tA; obtain ⟨go13, co13, eo13, gb13, gl13, cl13, HG13⟩ := Kd.R_form HO_4.out (by omega); (first | cases eo13 | (injection eo13 with ea_ en_ ec_; (first | subst ea_ | (injection ea_ with ea_; subst ea_)); subst ec_; clear en_)); have GB13 := Aside0.mk gb13; have GG13 := Aside0.mk HG13; clear gb13 gl13 HG13; obtain ⟨hx13_0, hf13_0⟩ := Kd.R_celln 0 HO_4.out (x5_1 : Int) p13 q13; replace p13 := eq_true p13; replace q13 := eq_true q13; obtain ⟨hy14_, hz14_⟩ := Kd.R_celln 0 HO_4.out (x5_1 : Int) (of_decide_eq_true tA) (of_decide_eq_true tA); have HP14 := Kd.R_putg HO_4.out (x5_1 : Int) t108) | ((with_reducible refine gate_store (t := 3) (p := 24) rfl ?_); refine store_event (t := 3) (p := 24) (v := ?vo_w15) (w1 := (wr.setCell ⟨go13, (x5_1 : Int).toNat, none⟩ (.int .i64 t108))) ?hg ?ho ?hn ?hr ?_; (case ho => rfl); (case hg => rfl); (case hn => rfl); (case hr => first | (go_simp; done) | (go_simp; rfl)); intro w15 hw; have hg : wr.grownBy w15 (some go13) := (by rw [hw]; exact HP14.2); have hp_ : Kd.R (Kd.int .i64) 3 w15 w.heap.size (fun k_ => some k_ ≠ (.slice (some ad107) t101.length co6 : Value).ownBlock) (.slice (some ⟨go13, 0, none⟩) x4_1.length co13) y109 := (by rw [hw, Ny109.out]; exact HP14.1); clear HP14; replace HO_3 := Aside0.mk (Kd.R_after (v := (.slice (some ⟨go13, 0, none⟩) x4_1.length co13)) (v1 := (.slice (some ⟨go13, 0, none⟩) x4_1.length co13)) (ok := (fun _ => True)) (by (with_reducible repeat (first | apply Kd.R_alloc | apply Kd.R_drewN | apply Kd.R_drew)); exact Kd.R_mono HO_3.out (fun _ hk => ⟨trivial, hk⟩)) hg (.inl rfl)); replace HO_4 := Aside0.mk (hp_); replace HB := Aside0.mk ((by rw [hw]; exact below_set (HB.out) GB13.out : Below w.heap.size w w15)); clear hg hw hp_))
        go_roundg k1
        case measure => have := HK1.out; omega
        case rel => exact ⟨(y109), (wrap64 (x5_1 + 1)), (by first | rfl | (simp; done) | (simp only [i64_w]; done) | (simp [*]; done)), H', ⟨by have := HK1.out; omega⟩, ⟨by (with_reducible repeat (first | apply Kd.R_alloc | apply Kd.R_drewN | apply Kd.R_drew)); exact Kd.R_mono HO_3.out (fun _ hk => hk.2)⟩, ⟨tR HO_4.out⟩, ⟨tB⟩⟩
       ·rw [if_neg c12] at H
        exact absurd H (by simp)
      ·rw [if_neg c10] at H
       exact absurd H (by simp)
     ·rw [if_neg c9] at H
      have c9b0 := decide_eq_false c9
      clear c9
      obtain rfl := Option.some.inj H
      go_wp2
      go_ret
      exact ⟨_, by first | rfl | (simp [errW_none, errW_some] <;> rfl) | (simp [*, errW_none, errW_some] <;> rfl), by (with_reducible repeat (first | apply Kd.R_alloc | apply Kd.R_drewN | apply Kd.R_drew)); exact Kd.R_mono HO_4.out (fun _ hk => trivial), tB⟩
  ·rw [if_neg c4] at H
   exact absurd H (by simp)
 ·rw [if_neg c3] at H
  exact absurd H (by simp)

/-! ### feature_Spectrum: function 50 -/
def feature_Spectrum.f (k : Nat) (l0 : List Int) : Option (List Int × Int) := (feature_possible.f (l0.length : Int)).bind fun t101 => (if t101 = true then ((feature_within.f l0 65536).bind fun t102 => (if t102 = true then ((feature_spectrum.f k l0).bind fun t103 => (some (t103, 0))) else (some (([] : List Int), 2)))) else (some (([] : List Int), 2)))
theorem feature_Spectrum.mono : ∀ a0 k, LeO (feature_Spectrum.f k a0) (feature_Spectrum.f (k + 1) a0) := by
 intro a0 k
 unfold feature_Spectrum.f
 repeat' first
   | (with_reducible exact feature_spectrum.mono _ _)
   | (with_reducible exact LeO.refl _)
   | (with_reducible exact LeO.none _)
   | (with_reducible refine LeO.ite ?_ ?_)
   | (with_reducible refine LeO.bind ?_ (fun _ => ?_))
   | exact feature_spectrum.mono _ _
   | exact LeO.none _
   | refine LeO.ite ?_ ?_
   | refine LeO.bind ?_ (fun _ => ?_)
set_option maxHeartbeats 8000000 in
set_option maxRecDepth 100000 in
theorem feature_Spectrum.calls (k : Nat) (A0 : Option Addr) (c0 : Nat) (l0 : List Int) (r1 : List Int) (r2 : Int) (w : World) (ht : Kd.C (Kd.int .i64) w (some ⟨0, 0, none⟩) 65 tabL) (hr0 : Kd.C (Kd.int .i64) w A0 l0.length l0) (hc0 : l0.length ≤ c0) (h : feature_Spectrum.f k l0 = some (r1, r2)) :
  Calls Tryd.prog 50 #[.slice A0 l0.length c0] w fun e w' => ∃ v0_ : Value, e = .returned (.tuple #[v0_, .int .i64 r2]) ∧ Kd.R (Kd.int .i64) 3 w' w.heap.size (fun _ => True) v0_ r1 ∧ Below w.heap.size w w' := by
 have HRT := Aside0.mk ht
 clear ht
 have HR0 := Aside0.mk hr0
 have HC0 := Aside0.mk hc0
 clear hr0 hc0
 have HB := Aside0.mk (Below.refl w.heap.size w)
 have H : ((feature_possible.f (l0.length : Int)).bind fun t101 => (if t101 = true then ((feature_within.f l0 65536).bind fun t102 => (if t102 = true then ((feature_spectrum.f k l0).bind fun t103 => (some (t103, 0))) else (some (([] : List Int), 2)))) else (some (([] : List Int), 2)))) = some (r1, r2) := h
 clear h
 replace H := Option.bind_eq_some_iff.mp H
 obtain ⟨t101, A20, H⟩ := H
 try dsimp only at H
 have A2 := Aside0.mk A20
 clear A20
 by_cases c3 : t101 = true
 ·subst c3
  have H1 : ((feature_within.f l0 65536).bind fun t102 => (if t102 = true then ((feature_spectrum.f k l0).bind fun t103 => (some (t103, 0))) else (some (([] : List Int), 2)))) = some (r1, r2) := by rw [if_pos rfl] at H; exact H
  clear H
  have H := H1
  clear H1
  replace H := Option.bind_eq_some_iff.mp H
  obtain ⟨t102, A40, H⟩ := H
  try dsimp only at H
  have A4 := Aside0.mk A40
  clear A40
  by_cases c5 : t102 = true
  ·subst c5
   have H1 : ((feature_spectrum.f k l0).bind fun t103 => (some (t103, 0))) = some (r1, r2) := by rw [if_pos rfl] at H; exact H
   clear H
   have H := H1
   clear H1
   replace H := Option.bind_eq_some_iff.mp H
   obtain ⟨t103, A60, H⟩ := H
   try dsimp only at H
   have A6 := Aside0.mk A60
   clear A60
   simp only [Option.some.injEq, Prod.mk.injEq] at H
   obtain ⟨rfl, rfl⟩ := H
   go_enter Tryd.func50, Tryd.ntmps50
   go_wp2_with (first | ((with_reducible refine gate_callee (f := 79) rfl ?_); refine goesL_ (some 6) rfl rfl Tryd.func79 (by kernel_rfl) rfl #[.int .i64 (l0.length : Int)] rfl tL ?_; (with_reducible refine (feature_possible.calls (l0.length : Int) true _ A2.out).mono ?_); rintro e w' ⟨rfl, ⟨nd, rfl⟩⟩; refine ⟨_, rfl, ?_⟩) | (go_at_call 80; (with_reducible refine (feature_within.calls _ _ l0 65536 true _ ?side1 ?side2 A4.out).mono ?_); (case side1 => exact tC HR0.out); (case side2 => exact HC0.out); rintro e w7 ⟨rfl, hb⟩; replace HB := Aside0.mk (below_step tB hb); (try clear hb); (try clear hb2); (try clear hk); (try clear hi)) | ((with_reducible refine gate_callee (f := 112) rfl ?_); refine goesL_ (some 14) rfl rfl Tryd.func112 (by kernel_rfl) rfl #[.slice A0 l0.length c0] rfl tL ?_; (with_reducible refine (feature_spectrum.calls k _ _ l0 t103 _ ?side3 ?side1 ?side2 A6.out).mono ?_); (case side1 => exact tC (Kd.C_below HR0.out HB.out)); (case side2 => exact HC0.out); (case side3 => exact tC (Kd.C_below HRT.out HB.out)); rintro e w8 ⟨v104, rfl, ho0, hb⟩; refine ⟨_, rfl, ?_⟩; have HO105 := Aside0.mk (Kd.R_lower ho0 (below_size tB)); replace HB := Aside0.mk (below_step tB hb); (try clear hb); (try clear hb2); (try clear hk); (try clear hi); (try clear ho0)))
   go_ret2
   exact ⟨_, by first | rfl | (simp [errW_none, errW_some] <;> rfl) | (simp [*, errW_none, errW_some] <;> rfl), tR HO105.out, tB⟩
  ·replace c5 := Bool.eq_false_iff.mpr c5
   subst c5
   have H1 : (some (([] : List Int), 2)) = some (r1, r2) := by rw [if_neg (show ¬ (false = true) by decide)] at H; exact H
   clear H
   have H := H1
   clear H1
   simp only [Option.some.injEq, Prod.mk.injEq] at H
   obtain ⟨rfl, rfl⟩ := H
   go_enter Tryd.func50, Tryd.ntmps50
   go_wp2_with (first | ((with_reducible refine gate_callee (f := 79) rfl ?_); refine goesL_ (some 6) rfl rfl Tryd.func79 (by kernel_rfl) rfl #[.int .i64 (l0.length : Int)] rfl tL ?_; (with_reducible refine (feature_possible.calls (l0.length : Int) true _ A2.out).mono ?_); rintro e w' ⟨rfl, ⟨nd, rfl⟩⟩; refine ⟨_, rfl, ?_⟩) | (go_at_call 80; (with_reducible refine (feature_within.calls _ _ l0 65536 false _ ?side1 ?side2 A4.out).mono ?_); (case side1 => exact tC HR0.out); (case side2 => exact HC0.out); rintro e w9 ⟨rfl, hb⟩; replace HB := Aside0.mk (below_step tB hb); (try clear hb); (try clear hb2); (try clear hk); (try clear hi)))
   go_ret2
   exact ⟨_, by first | rfl | (simp [errW_none, errW_some] <;> rfl) | (simp [*, errW_none, errW_some] <;> rfl), by first | exact Kd.R_nil _ _ _ _ _ | exact Kd.N_nil _ _ _ _ _ | exact Kd.V_nil _ _ _ _ _ | exact Kd.Q_nil _ _ _ _ _ | exact Kd.S_nil _ _ _ _ _, tB⟩
 ·replace c3 := Bool.eq_false_iff.mpr c3
  subst c3
  have H1 : (some (([] : List Int), 2)) = some (r1, r2) := by rw [if_neg (show ¬ (false = true) by decide)] at H; exact H
  clear H
  have H := H1
  clear H1
  simp only [Option.some.injEq, Prod.mk.injEq] at H
  obtain ⟨rfl, rfl⟩ := H
  go_enter Tryd.func50, Tryd.ntmps50
  go_wp2_with (first | ((with_reducible refine gate_callee (f := 79) rfl ?_); refine goesL_ (some 6) rfl rfl Tryd.func79 (by kernel_rfl) rfl #[.int .i64 (l0.length : Int)] rfl tL ?_; (with_reducible refine (feature_possible.calls (l0.length : Int) false _ A2.out).mono ?_); rintro e w' ⟨rfl, ⟨nd, rfl⟩⟩; refine ⟨_, rfl, ?_⟩))
  go_ret2
  exact ⟨_, by first | rfl | (simp [errW_none, errW_some] <;> rfl) | (simp [*, errW_none, errW_some] <;> rfl), by first | exact Kd.R_nil _ _ _ _ _ | exact Kd.N_nil _ _ _ _ _ | exact Kd.V_nil _ _ _ _ _ | exact Kd.Q_nil _ _ _ _ _ | exact Kd.S_nil _ _ _ _ _, tB⟩

end Go.Proofs.YtdlbmbijobcljaaDoor.X

namespace Go.Proofs.YtdlbmbijobcljaaDoor.Pure
open Go.RowKit Go.Proofs.YtdlbmbijobcljaaDoor.X Go.Proofs.YtdlbmbijobcljaaDoorW.PrintWords Go.Proofs.YtdlbmbijobcljaaDoorW.PrintLast
set_option linter.unusedVariables false
set_option linter.unusedSimpArgs false
set_option linter.unusedSectionVars false
theorem rounded_eq : ∀ (k : Nat) (x d : Int), feature_rounded.f k x d = earshotref02_Round.f k x d := by
  intro k
  induction k with
  | zero => intro x d; rfl
  | succ k ih =>
    intro x d
    simp only [feature_rounded.f, earshotref02_Round.f, ih]
theorem rounded_ev (x d : Int) (hx0 : -4611686018427387903 ≤ x) (hx1 : x ≤ 4611686018427387903) (hd : 0 < d) (hd1 : d ≤ 1099511627776) (hs0 : -(2 * x) + d ≤ 9223372036854775807) (hs : 2 * x + d ≤ 9223372036854775807) : Ev (fun k => feature_rounded.f k x d) (rnd x d) :=
  Ev.congr (fun k => rounded_eq k x d) (round_ev x d hx0 hx1 hd hd1 hs0 hs)
/-- The first j numbers rounded, the others as in t. -/
def spList (s t : List Int) (j : Nat) : List Int := (List.range j).map (fun (i : Nat) => rnd (rd s (i : Int)) 16384) ++ t.drop j
theorem spList_length (s t : List Int) (j : Nat) (h : j ≤ t.length) : (spList s t j).length = t.length := by simp [spList]; omega
theorem spList_set (s t : List Int) (j : Nat) (h : j < t.length) : (spList s t j).set j (rnd (rd s (j : Int)) 16384) = spList s t (j + 1) := by
  unfold spList
  rw [List.range_succ, List.map_append, List.set_append_right _ _ (by simp)]
  simp only [List.length_map, List.length_range, Nat.sub_self, List.map_cons, List.map_nil, List.append_assoc]
  congr 1
  rw [List.drop_eq_getElem_cons h]
  rfl
theorem spList_rd (s : List Int) (j : Nat) (h : j < s.length) : rd (spList s s j) (j : Int) = rd s (j : Int) := by
  unfold spList
  rw [rd_nat, rd_nat, List.getD_eq_getElem?_getD, List.getElem?_append_right (by simp), List.getD_eq_getElem?_getD]
  simp
theorem spList_all (s t : List Int) (h : t.length = s.length) : spList s t s.length = spList s s s.length := by
  unfold spList
  rw [List.drop_of_length_le (by omega), List.drop_of_length_le (Nat.le_refl _)]
section
variable (s : List Int) (hs : ∀ x ∈ s, -1099511627776 ≤ x ∧ x ≤ 1099511627776) (hl : s.length ≤ 4611686018427387903)
include hs hl
theorem sp_loop : ∀ r j : Nat, j + r = s.length → Ev (fun k => feature_spectrum.l0 k (spList s s j) (s.length : Int) (j : Int)) (spList s s s.length) := by
  intro r
  induction r with
  | zero =>
    intro j hj
    refine Ev.step (f := fun _ => some (spList s s s.length)) (fun k => ?_) (Ev.now _)
    simp only [feature_spectrum.l0]
    rw [if_neg (by omega), show j = s.length by omega]
  | succ r ih =>
    intro j hj
    have h1 := ih (j + 1) (by omega)
    rw [← spList_set s s j (by omega)] at h1
    have hb := rd_bound s 1099511627776 (by omega) hs (j : Int)
    refine Ev.step (f := fun k => (feature_rounded.f k (rd s (j : Int)) 16384).bind fun t105 => feature_spectrum.l0 k ((spList s s j).set j t105) (s.length : Int) ((j + 1 : Nat) : Int)) (fun k => ?_) (Ev.bind (rounded_ev _ _ (by omega) (by omega) (by omega) (by omega) (by omega) (by omega)) h1)
    simp only [feature_spectrum.l0]
    rw [if_pos (by omega), if_pos (by omega), if_pos (by rw [spList_length _ _ _ (by omega)]; omega), spList_rd s j (by omega), w64 (by omega) (by omega), Int.toNat_natCast]
    rfl
theorem sp_loop' (t : List Int) (ht : t.length = s.length) : ∀ r j : Nat, j + r = s.length → Ev (fun k => earshotref03_Spectrum.l0 k s (spList s t j) (j : Int)) (spList s s s.length) := by
  intro r
  induction r with
  | zero =>
    intro j hj
    refine Ev.step (f := fun _ => some (spList s s s.length)) (fun k => ?_) (Ev.now _)
    simp only [earshotref03_Spectrum.l0]
    rw [if_neg (by omega), show j = s.length by omega, spList_all s t ht]
  | succ r ih =>
    intro j hj
    have h1 := ih (j + 1) (by omega)
    rw [← spList_set s t j (by omega)] at h1
    have hb := rd_bound s 1099511627776 (by omega) hs (j : Int)
    refine Ev.step (f := fun k => (earshotref02_Round.f k (rd s (j : Int)) 16384).bind fun t108 => earshotref03_Spectrum.l0 k s ((spList s t j).set j t108) ((j + 1 : Nat) : Int)) (fun k => ?_) (Ev.bind (round_ev _ _ (by omega) (by omega) (by omega) (by omega) (by omega) (by omega)) h1)
    simp only [earshotref03_Spectrum.l0]
    rw [if_pos (by omega), if_pos (by omega)]
    congr 1
    funext t108
    rw [if_pos (by rw [spList_length _ _ _ (by omega)]; omega), w64 (by omega) (by omega), Int.toNat_natCast]
    rfl
end
theorem trList_bound (l : List Int) (n : Nat) (hn : n ≤ 64) (h : ∀ x ∈ l, -65536 ≤ x ∧ x ≤ 65536) : ∀ x ∈ trList l n n, -1099511627776 ≤ x ∧ x ≤ 1099511627776 := by
  intro x hx
  simp only [trList, Nat.sub_self, List.replicate_zero, List.append_nil, List.mem_map, List.mem_range] at hx
  obtain ⟨j, hj, rfl⟩ := hx
  have := trSum_bound l h ((64 : Int) / n) j n
  unfold trAt
  omega
section
variable (l : List Int) (n : Nat) (hn : isLen n = true) (hl : l.length = n) (h : ∀ x ∈ l, -65536 ≤ x ∧ x ≤ 65536)
include hn hl h
theorem spectrum_ev : Ev (fun k => feature_spectrum.f k l) (spList (trList l n n) (trList l n n) n) := by
  obtain ⟨n0, n1, n2, n3, n4⟩ := isLen_dvd n hn
  have hL := trList_length l n n (Nat.le_refl _)
  have e := sp_loop (trList l n n) (trList_bound l n n1 h) (by omega) n 0 (by omega)
  rw [hL] at e
  refine Ev.congr (f := fun k => (feature_transform.f k l).bind fun t101 => feature_spectrum.l0 k t101 (t101.length : Int) 0) (fun k => rfl) (Ev.bind (transform_ev l n hn hl h) ?_)
  rw [hL]
  exact e
theorem ref_spectrum_ev : Ev (fun k => earshotref03_Spectrum.f k l) (spList (trList l n n) (trList l n n) n) := by
  obtain ⟨n0, n1, n2, n3, n4⟩ := isLen_dvd n hn
  have hL := trList_length l n n (Nat.le_refl _)
  have e := sp_loop' (trList l n n) (trList_bound l n n1 h) (by omega) (List.replicate n 0) (by simp [hL]) n 0 (by omega)
  rw [hL] at e
  refine Ev.congr (f := fun k => (earshotref03_Transform.f k l).bind fun t101 => (if 0 ≤ (t101.length : Int) then (if ((t101.length : Int) : Int).toNat ≤ 35184372088832 then (earshotref03_Spectrum.l0 k t101 (List.replicate ((t101.length : Int) : Int).toNat 0) 0) else (none)) else (none))) (fun k => rfl) (Ev.bind (ref_transform_ev l n hn hl h) ?_)
  refine Ev.congr (fun k => ?_) e
  rw [hL, if_pos (by omega), if_pos (by omega), Int.toNat_natCast]
  rfl
theorem Spectrum_ok : Ev (fun k => feature_Spectrum.f k l) (spList (trList l n n) (trList l n n) n, 0) := by
  refine Ev.congr (f := fun k => (feature_spectrum.f k l).bind fun t103 => some (t103, 0)) (fun k => ?_) (Ev.bind (spectrum_ev l n hn hl h) (Ev.now _))
  unfold feature_Spectrum.f
  rw [hl, possible_at, hn, Option.bind_some, if_pos rfl, within_ok l n hn hl h, Option.bind_some, if_pos rfl]
end
theorem Spectrum_bad (l : List Int) (h : isLen l.length = false ∨ allIn l (-65536) 65536 = false) (k : Nat) : feature_Spectrum.f k l = some ([], 2) := by
  unfold feature_Spectrum.f
  rw [possible_at, Option.bind_some]
  cases hp : isLen l.length with
  | false => rw [if_neg (by simp)]
  | true =>
    rcases h with h | h
    · rw [hp] at h; cases h
    · rw [if_pos rfl, within_at _ _ (by omega) (by omega), h, Option.bind_some]
      rfl
end Go.Proofs.YtdlbmbijobcljaaDoor.Pure

namespace Go.Proofs.YtdlbmbijobcljaaDoor.X
open Go.RowKit Go.Proofs.YtdlbmbijobcljaaDoorW.PrintWords Go.Proofs.YtdlbmbijobcljaaDoorW.PrintLast Go.Proofs.YtdlbmbijobcljaaDoorW.PrintMore
attribute [local go_sem] max2_int min2_int max_two min_two max_three min_three max_four min_four   -- for this text's walks alone
set_option linter.unusedVariables false
set_option linter.unusedSimpArgs false
/-! ### earshotref03_mean: function 116 -/
mutual
def earshotref03_mean.l0 : Nat → List (List Int) → List Int → Int → Option (List Int)
 | 0, _, _, _ => none
 | k + 1, x0, x3, x4 => if x4 < (x3.length : Int) then (earshotref03_mean.l1 k x0 x3 x4 0) else (some x3)
def earshotref03_mean.l1 : Nat → List (List Int) → List Int → Int → Int → Option (List Int)
 | 0, _, _, _, _ => none
 | k + 1, x0, x3, x4, x5 => if x5 < (x0.length : Int) then (if 0 ≤ x4 then (if x4 < (x3.length : Int) then (if 0 ≤ x5 then (if x4 < ((rd_L2 x0 x5).length : Int) then (earshotref03_mean.l1 k x0 (x3.set (x4 : Int).toNat (wrap64 ((rd x3 x4) + (rd (rd_L2 x0 x5) x4)))) x4 (wrap64 (x5 + 1))) else (none)) else (none)) else (none)) else (none)) else (if 0 ≤ x4 then (if x4 < (x3.length : Int) then ((earshotref02_Round.f k (rd x3 x4) (x0.length : Int)).bind fun t110 => (earshotref03_mean.l0 k x0 (x3.set (x4 : Int).toNat t110) (wrap64 (x4 + 1)))) else (none)) else (none))
end
def earshotref03_mean.f (k : Nat) (l0 : List (List Int)) : Option (List Int) := if 0 < (l0.length : Int) then (if 0 ≤ ((rd_L2 l0 0).length : Int) then (if (((rd_L2 l0 0).length : Int) : Int).toNat ≤ 35184372088832 then (earshotref03_mean.l0 k l0 (List.replicate (((rd_L2 l0 0).length : Int) : Int).toNat 0) 0) else (none)) else (none)) else (none)
theorem earshotref03_mean.mono_l : ∀ k, (∀ y0 y1 y2, LeO (earshotref03_mean.l0 k y0 y1 y2) (earshotref03_mean.l0 (k + 1) y0 y1 y2)) ∧ (∀ y0 y1 y2 y3, LeO (earshotref03_mean.l1 k y0 y1 y2 y3) (earshotref03_mean.l1 (k + 1) y0 y1 y2 y3))
 | 0 => ⟨fun _ _ _ r h => by simp [earshotref03_mean.l0] at h, fun _ _ _ _ r h => by simp [earshotref03_mean.l1] at h⟩
 | k + 1 => by
  obtain ⟨ih0, ih1⟩ := earshotref03_mean.mono_l k
  refine ⟨?_, ?_⟩
  ·intro y0 y1 y2
   unfold earshotref03_mean.l0
   repeat' first
   | (with_reducible exact ih0 _ _ _)
   | (with_reducible exact ih1 _ _ _ _)
   | (with_reducible exact earshotref02_Round.mono _ _ _)
   | (with_reducible exact LeO.refl _)
   | (with_reducible exact LeO.none _)
   | (with_reducible refine LeO.ite ?_ ?_)
   | (with_reducible refine LeO.bind ?_ (fun _ => ?_))
   | exact ih0 _ _ _
   | exact ih1 _ _ _ _
   | exact earshotref02_Round.mono _ _ _
   | exact LeO.none _
   | refine LeO.ite ?_ ?_
   | refine LeO.bind ?_ (fun _ => ?_)
  ·intro y0 y1 y2 y3
   unfold earshotref03_mean.l1
   repeat' first
   | (with_reducible exact ih0 _ _ _)
   | (with_reducible exact ih1 _ _ _ _)
   | (with_reducible exact earshotref02_Round.mono _ _ _)
   | (with_reducible exact LeO.refl _)
   | (with_reducible exact LeO.none _)
   | (with_reducible refine LeO.ite ?_ ?_)
   | (with_reducible refine LeO.bind ?_ (fun _ => ?_))
   | exact ih0 _ _ _
   | exact ih1 _ _ _ _
   | exact earshotref02_Round.mono _ _ _
   | exact LeO.none _
   | refine LeO.ite ?_ ?_
   | refine LeO.bind ?_ (fun _ => ?_)
theorem earshotref03_mean.mono : ∀ a0 k, LeO (earshotref03_mean.f k a0) (earshotref03_mean.f (k + 1) a0) := by
 intro a0 k
 obtain ⟨ih0, ih1⟩ := earshotref03_mean.mono_l k
 unfold earshotref03_mean.f
 repeat' first
   | (with_reducible exact ih0 _ _ _)
   | (with_reducible exact ih1 _ _ _ _)
   | (with_reducible exact earshotref02_Round.mono _ _ _)
   | (with_reducible exact LeO.refl _)
   | (with_reducible exact LeO.none _)
   | (with_reducible refine LeO.ite ?_ ?_)
   | (with_reducible refine LeO.bind ?_ (fun _ => ?_))
   | exact ih0 _ _ _
   | exact ih1 _ _ _ _
   | exact earshotref02_Round.mono _ _ _
   | exact LeO.none _
   | refine LeO.ite ?_ ?_
   | refine LeO.bind ?_ (fun _ => ?_)
def earshotref03_mean.T8 : Bool × List (List Nat × List Nat) := (true, [([], []), ([], []), ([], []), ([], []), ([2, 3], [2, 3]), ([4], [4]), ([], []), ([], []), ([6, 7], [6, 7]), ([8], [8]), ([], []), ([9, 10], [9, 10]), ([11], [11]), ([5, 12], [5, 12]), ([0, 1, 0, 1, 2, 3, 4, 5, 6, 7, 8, 9, 10, 11, 12, 13], [0, 1]), ([14, 13, 0, 1, 2, 3, 4, 5, 6, 7, 8, 9, 10, 11, 12, 13], [13, 14])])
def earshotref03_mean.B8 : List Nat := [0, 0, 0, 0, 12, 28, 0, 0, 192, 448, 0, 1984, 4032, 8188, 16383, 32767]
theorem earshotref03_mean.tab8 : rtab .any (opsOf Tryd.f116 8) = earshotref03_mean.T8 := by kernel_rfl
theorem earshotref03_mean.bits8 : waitsOk earshotref03_mean.T8.2 earshotref03_mean.B8 = true := by kernel_rfl
set_option maxHeartbeats 8000000 in
set_option maxRecDepth 100000 in
theorem earshotref03_mean.calls (k : Nat) (A0 : Option Addr) (c0 : Nat) (l0 : List (List Int)) (r : List Int) (w : World) (hr0 : Kd.C (Kd.slice 3 (Kd.int .i64)) w A0 l0.length l0) (hc0 : l0.length ≤ c0) (h : earshotref03_mean.f k l0 = some r) :
  Calls Tryd.prog 116 #[.slice A0 l0.length c0] w fun e w' => ∃ v0_ : Value, e = .returned (v0_) ∧ Kd.R (Kd.int .i64) 3 w' w.heap.size (fun _ => True) v0_ r ∧ Below w.heap.size w w' := by
 have HR0 := Aside0.mk hr0
 have HC0 := Aside0.mk hc0
 clear hr0 hc0
 have HB := Aside0.mk (Below.refl w.heap.size w)
 have H : (if 0 < (l0.length : Int) then (if 0 ≤ ((rd_L2 l0 0).length : Int) then (if (((rd_L2 l0 0).length : Int) : Int).toNat ≤ 35184372088832 then (earshotref03_mean.l0 k l0 (List.replicate (((rd_L2 l0 0).length : Int) : Int).toNat 0) 0) else (none)) else (none)) else (none)) = some r := h
 clear h
 by_cases c2 : 0 < (l0.length : Int)
 ·rw [if_pos c2] at H
  have c2b0 := decide_eq_true c2
  have c2b1 : decide (0 < l0.length) = true := decide_eq_true (by omega)
  clear c2
  by_cases c3 : 0 ≤ ((rd_L2 l0 0).length : Int)
  ·rw [if_pos c3] at H
   have c3b0 := eq_true c3
   have c3b1 := decide_eq_true c3
   clear c3
   by_cases c4 : (((rd_L2 l0 0).length : Int) : Int).toNat ≤ 35184372088832
   ·rw [if_pos c4] at H
    have c4b0 := eq_true c4
    have c4b1 := decide_eq_true c4
    clear c4
    obtain ⟨y102, hy102⟩ : ∃ y_ : List Int, y_ = (List.replicate (((rd_L2 l0 0).length : Int) : Int).toNat 0) := ⟨_, rfl⟩
    replace H : (earshotref03_mean.l0 k l0 y102 0) = some r := by first | (rw [hy102]; with_reducible exact H) | (have H2_ := (Option.bind_some _ _).symm.trans H; rw [hy102]; with_reducible exact H2_) | (have H2_ := (Option.bind_some _ _).symm.trans H; with_reducible exact H2_) | with_reducible exact H | (rw [hy102]; exact H) | exact H
    have Ny102 := Aside0.mk hy102
    clear hy102
    have H' := Aside0.mk H
    clear H
    have p101 : 0 ≤ (0 : Int) := (by omega)
    have q101 : 0 < (l0.length : Int) := of_decide_eq_true tA
    obtain ⟨ad101, A101_0, c101_0, e101, hx101_0, hl101_0, hi101_0⟩ := at_L2 HR0.out 0 p101 q101
    cases e101
    have qi101 : (0 < l0.length) = True := eq_true (by omega)
    (try rw [show ((0 : Int)).toNat = 0 from rfl] at hx101_0)
    (try rw [Addr.add_zero'] at hx101_0)
    have HR101_0 := Aside0.mk hi101_0
    have HC101_0 := Aside0.mk hl101_0
    clear hi101_0 hl101_0
    replace p101 := eq_true p101
    replace q101 := eq_true q101
    go_enter Tryd.func116, Tryd.ntmps116
    go_wp2_with (first | ((with_reducible refine gate_dst (N := 10) rfl ?_); refine Kd.R_make (Kd.int .i64) _ 3 rfl (N := 10) rfl 22 _ _ rfl ((rd_L2 l0 0).length : Int) rfl rfl Tryd.underlying22 (.int .i64 0) 8 info3 rfl (by decide) (by omega) 0 (ok := fun _ => True) (okp := fun _ => True) rfl (fun _ hk => hk) trivial (of_decide_eq_true tA) (Nat.le_trans (Nat.mul_le_mul_right _ (of_decide_eq_true tA : ((rd_L2 l0 0).length : Int).toNat ≤ 35184372088832)) (by omega)) (Below.refl _ _) (Nat.le_refl _) ?_; intro v103 w5 ho6 hb hg_ hnew_; clear hg_ hnew_; (first | rw [← Ny102.out] at ho6 | (simp only [Int.reduceToNat] at ho6; rw [← Ny102.out] at ho6)); have HO104 := Aside0.mk (Kd.R_lower ho6 (below_size tB)); replace HB := Aside0.mk (below_step tB hb); clear hb ho6))
    go_loopg [4] k (fun kq v4 w' => ∃ (x3_1 : List Int) (x4_1 : Int), v4 = .int .i64 x4_1 ∧ Aside0 (earshotref03_mean.l0 kq l0 x3_1 x4_1 = some r) ∧ Aside0 (kq ≤ k) ∧ Aside0 (Kd.R (Kd.int .i64) 3 w' w.heap.size (fun _ => True) v103 x3_1) ∧ Aside0 (Below w.heap.size w w'))
    case atStart => exact ⟨(y102), (0), (by first | rfl | (simp; done) | (simp only [i64_w]; done) | (simp [*]; done)), H', ⟨Nat.le_refl _⟩, ⟨tR HO104.out⟩, ⟨tB⟩⟩
    case round =>
     clear H'
     try clear c1
     try clear p1
     try clear q1
     try clear hx1
     try clear qi1
     try clear c2
     try clear c2b0
     try clear c2b1
     try clear p2
     try clear c3
     try clear c3b0
     try clear c3b1
     try clear c4
     try clear c4b0
     try clear c4b1
     try clear hx101_0
     try clear p101
     try clear q101
     obtain ⟨x3_1, x4_1, rfl, HA, HK1, HO_3, HB⟩ := hrel
     cases gk with
     | zero => exact absurd HA.out (by simp [earshotref03_mean.l0])
     | succ k1 =>
      have H := HA.out
      clear HA
      simp only [earshotref03_mean.l0] at H
      by_cases c7 : x4_1 < (x3_1.length : Int)
      ·rw [if_pos c7] at H
       have c7b0 := decide_eq_true c7
       clear c7
       have H' := Aside0.mk H
       clear H
       obtain ⟨Ao8, co8, eo8⟩ := Kd.R_slice HO_3.out
       subst eo8
       go_wp2
       go_loopg [5] k1 (fun kq v5 w' => ∃ (x3_2 : List Int) (x5_2 : Int), v5 = .int .i64 x5_2 ∧ Aside0 (earshotref03_mean.l1 kq l0 x3_2 x4_1 x5_2 = some r) ∧ Aside0 (kq ≤ k1) ∧ Aside0 (Kd.R (Kd.int .i64) 3 w' w.heap.size (fun _ => True) (.slice Ao8 x3_1.length co8) x3_2) ∧ Aside0 (Below w.heap.size w w'))
       case atStart => exact ⟨(x3_1), (0), (by first | rfl | (simp; done) | (simp only [i64_w]; done) | (simp [*]; done)), H', ⟨Nat.le_refl _⟩, ⟨tR HO_3.out⟩, ⟨tB⟩⟩
       case round =>
        clear H'
        try clear c1
        try clear p1
        try clear q1
        try clear hx1
        try clear qi1
        try clear c2
        try clear c2b0
        try clear c2b1
        try clear p2
        try clear c3
        try clear c3b0
        try clear c3b1
        try clear c4
        try clear c4b0
        try clear c4b1
        try clear c7
        try clear c7b0
        try clear hx101_0
        try clear p1
        try clear p101
        try clear p2
        try clear q1
        try clear q101
        obtain ⟨x3_2, x5_2, rfl, HA, HK2, HO_3, HB⟩ := hrel
        have hl3_2 := (Kd.R_reads' HO_3.out).1
        rw [hl3_2] at HO_3
        (try simp only [hl3_2])
        cases gk with
        | zero => exact absurd HA.out (by simp [earshotref03_mean.l1])
        | succ k2 =>
         have H := HA.out
         clear HA
         simp only [earshotref03_mean.l1] at H
         by_cases c9 : x5_2 < (l0.length : Int)
         ·rw [if_pos c9] at H
          have c9b0 := decide_eq_true c9
          (try simp only [hl3_2] at c9b0)
          clear c9
          by_cases c10 : 0 ≤ x4_1
          ·rw [if_pos c10] at H
           have c10b0 := decide_eq_true c10
           clear c10
           by_cases c11 : x4_1 < (x3_2.length : Int)
           ·rw [if_pos c11] at H
            have c11b0 := decide_eq_true c11
            (try simp only [hl3_2] at c11b0)
            clear c11
            by_cases c12 : 0 ≤ x5_2
            ·rw [if_pos c12] at H
             have c12b0 := decide_eq_true c12
             clear c12
             by_cases c13 : x4_1 < ((rd_L2 l0 x5_2).length : Int)
             ·rw [if_pos c13] at H
              have c13b0 := decide_eq_true c13
              (try simp only [hl3_2] at c13b0)
              clear c13
              obtain ⟨y108, hy108⟩ : ∃ y_ : List Int, y_ = (x3_2.set (x4_1 : Int).toNat (wrap64 ((rd x3_2 x4_1) + (rd (rd_L2 l0 x5_2) x4_1)))) := ⟨_, rfl⟩
              replace H : (earshotref03_mean.l1 k2 l0 y108 x4_1 (wrap64 (x5_2 + 1))) = some r := by first | (rw [hy108]; with_reducible exact H) | (have H2_ := (Option.bind_some _ _).symm.trans H; rw [hy108]; with_reducible exact H2_) | (have H2_ := (Option.bind_some _ _).symm.trans H; with_reducible exact H2_) | with_reducible exact H | (rw [hy108]; exact H) | exact H
              have Ny108 := Aside0.mk hy108
              clear hy108
              have H' := Aside0.mk H
              clear H
              try go_wp2
              replace HO_3 := Aside0.mk (Kd.R_drew HO_3.out)
              replace HB := Aside0.mk (below_drew1 HB.out)
              have p105 : 0 ≤ (x4_1 : Int) := of_decide_eq_true tA
              have q105 : x4_1 < (x3_2.length : Int) := of_decide_eq_true tA
              obtain ⟨ad105, e105, hx105_0⟩ := Kd.at_int (Kd.R_reads' HO_3.out).2.2 x4_1 p105 q105
              cases e105
              replace p105 := eq_true p105
              replace q105 := eq_true q105
              have p106 : 0 ≤ (x5_2 : Int) := of_decide_eq_true tA
              have q106 : x5_2 < (l0.length : Int) := of_decide_eq_true tA
              obtain ⟨ad106, A106_0, c106_0, e106, hx106_0, hl106_0, hi106_0⟩ := at_L2 HR0.out x5_2 p106 q106
              have hw106_0 := hx106_0
              obtain rfl : ad101 = ad106 := (by injection e106)
              replace hx106_0 := (HB.out.cell (World.block_lt_of_cell? w _ hx106_0)).trans hx106_0
              have HR106_0 := Aside0.mk hi106_0
              have HC106_0 := Aside0.mk hl106_0
              clear hi106_0 hl106_0
              replace p106 := eq_true p106
              replace q106 := eq_true q106
              have p107 : 0 ≤ (x4_1 : Int) := of_decide_eq_true tA
              have q107 : x4_1 < ((rd_L2 l0 x5_2).length : Int) := of_decide_eq_true tA
              obtain ⟨ad107, e107, hx107_0⟩ := Kd.at_int HR106_0.out x4_1 p107 q107
              have hw107_0 := hx107_0
              cases e107
              replace hx107_0 := (HB.out.cell (World.block_lt_of_cell? w _ hx107_0)).trans hx107_0
              replace p107 := eq_true p107
              replace q107 := eq_true q107
              have p14 : 0 ≤ (x4_1 : Int) := of_decide_eq_true tA
              have q14 : (x4_1 : Int) < ((x3_2.length : Int) : Int) := of_decide_eq_true tA
              obtain ⟨go14, co14, eo14, gb14, gl14, cl14, HG14⟩ := Kd.R_form HO_3.out (by omega)
              (first | cases eo14 | (injection eo14 with ea_ en_ ec_; (first | subst ea_ | (injection ea_ with ea_; subst ea_)); subst ec_; clear en_))
              have GB14 := Aside0.mk gb14
              have GG14 := Aside0.mk HG14
              clear gb14 gl14 HG14
              (first | simp only [add_plain] at hx105_0 | skip)
              obtain ⟨hx14_0, hf14_0⟩ := Kd.R_celln 0 HO_3.out (x4_1 : Int) p14 q14
              replace p14 := eq_true p14
              replace q14 := eq_true q14
              have HP16 := Kd.R_putn HO_3.out (x4_1 : Int) (wrap64 ((rd x3_2 x4_1) + (rd (rd_L2 l0 x5_2) x4_1)))
              rw [← Ny108.out] at HP16
              have HQ16 := Aside0.mk HP16
              clear HP16
              refine start_ (n := 16) (S := fun w' => w'.cell? ⟨go14, (x4_1).toNat, none⟩ = some (.int .i64 (rd x3_2 x4_1)) ∧ w'.cell? (ad101.add (x5_2).toNat) = some (.slice (some ad107) (rd_L2 l0 x5_2).length c106_0) ∧ w'.cell? (ad107.add (x4_1).toNat) = some (.int .i64 (rd (rd_L2 l0 x5_2) x4_1))) (ds := [15]) (bm 0 16) (by kernel_rfl) rfl rfl ⟨hx105_0, ((HB.out.cell (World.block_lt_of_cell? w _ hw106_0)).trans hw106_0), ((HB.out.cell (World.block_lt_of_cell? w _ hw107_0)).trans hw107_0)⟩ (fun hHeld => ?_); refine with_tabW earshotref03_mean.tab8 earshotref03_mean.bits8 (fun HT_ HW_ => ?_)
              generalize wr.drew = w15 at HO_3 HB GG14 HQ16 HR106_0 hf14_0 hx105_0 hx106_0 hx107_0 hx14_0 hHeld ⊢
              refine pI 0 (some 23) (bm 1 16) HT_.out ?_
              refine pI 1 (some 24) (bm 2 16) HT_.out ?_
              refine pI 2 (some 25) (bm 3 16) HT_.out ?_
              refine pI 3 (some 26) (bm 4 16) HT_.out ?_
              refine pI 4 (some 27) (bm 5 16) HT_.out ?_
              refine pI 6 (some 29) (bq 95 16) HT_.out ?_
              refine pI 7 (some 30) (bq 223 16) HT_.out ?_
              refine pI 8 (some 31) (bq 479 16) HT_.out ?_
              refine pI 10 (some 33) (bq 1503 16) HT_.out ?_
              refine tk3 5 (some 28) (bq 1535 16) HT_.out HW_.out hHeld ?_
              refine tk3 9 (some 32) (bm 11 16) HT_.out HW_.out hHeld ?_
              refine pI 11 (some 34) (bm 12 16) HT_.out ?_
              refine tk3 12 (some 35) (bm 13 16) HT_.out HW_.out hHeld ?_
              refine pI 13 (some 36) (bm 14 16) HT_.out ?_
              refine pI 14 (some 37) (bm 15 16) HT_.out ?_
              refine last_ (i := 15) (N := none) (bm 16 16) rfl rfl (one_of HT_.out (by kernel_rfl)) (by decide) (fun K hK => ?_)
              refine skip_ (w1 := ?_) (by rfl) rfl ?_ ?_
              rotate_left
              ·go_simp
               rfl
              refine hK.out _ _ ?_
              clear hK K
              refine done_ (done_of HT_.out (by kernel_rfl)) ?_
              try go_wp2
              (try simp only [← hl3_2])
              go_roundg k2
              case measure => have := HK1.out; have := HK2.out; omega
              case rel => exact ⟨(y108), (wrap64 (x5_2 + 1)), (by first | rfl | (simp; done) | (simp only [i64_w]; done) | (simp [*]; done)), H', ⟨by have := HK1.out; have := HK2.out; omega⟩, ⟨by (try simp only [hl3_2]); exact tR HQ16.out⟩, ⟨by repeat (first | (with_reducible first | exact HB.out | apply below_alloc | apply pw_below_drewN | apply below_drew1 | refine below_set ?_ GB14.out) | exact HB.out)⟩⟩
             ·rw [if_neg c13] at H
              exact absurd H (by simp)
            ·rw [if_neg c12] at H
             exact absurd H (by simp)
           ·rw [if_neg c11] at H
            exact absurd H (by simp)
          ·rw [if_neg c10] at H
           exact absurd H (by simp)
         ·rw [if_neg c9] at H
          have c9b0 := decide_eq_false c9
          (try simp only [hl3_2] at c9b0)
          clear c9
          by_cases c17 : 0 ≤ x4_1
          ·rw [if_pos c17] at H
           have c17b0 := decide_eq_true c17
           clear c17
           by_cases c18 : x4_1 < (x3_2.length : Int)
           ·rw [if_pos c18] at H
            have c18b0 := decide_eq_true c18
            (try simp only [hl3_2] at c18b0)
            clear c18
            replace H := Option.bind_eq_some_iff.mp H
            obtain ⟨t110, A190, H⟩ := H
            try dsimp only at H
            have A19 := Aside0.mk A190
            clear A190
            obtain ⟨y111, hy111⟩ : ∃ y_ : List Int, y_ = (x3_2.set (x4_1 : Int).toNat t110) := ⟨_, rfl⟩
            replace H : (earshotref03_mean.l0 k2 l0 y111 (wrap64 (x4_1 + 1))) = some r := by first | (rw [hy111]; with_reducible exact H) | (have H2_ := (Option.bind_some _ _).symm.trans H; rw [hy111]; with_reducible exact H2_) | (have H2_ := (Option.bind_some _ _).symm.trans H; with_reducible exact H2_) | with_reducible exact H | (rw [hy111]; exact H) | exact H
            have Ny111 := Aside0.mk hy111
            clear hy111
            have H' := Aside0.mk H
            clear H
            have p109 : 0 ≤ (x4_1 : Int) := of_decide_eq_true tA
            have q109 : x4_1 < (x3_2.length : Int) := of_decide_eq_true tA
            obtain ⟨ad109, e109, hx109_0⟩ := Kd.at_int (Kd.R_reads' HO_3.out).2.2 x4_1 p109 q109
            cases e109
            replace p109 := eq_true p109
            replace q109 := eq_true q109
            go_wp2_with (first | ((with_reducible refine gate_callee (f := 83) rfl ?_); refine goesL_ (some 46) rfl rfl Tryd.func83 (by kernel_rfl) rfl #[.int .i64 (rd x3_2 x4_1), .int .i64 (l0.length : Int)] rfl tL ?_; (with_reducible refine (earshotref02_Round.calls k2 (rd x3_2 x4_1) (l0.length : Int) t110 _ A19.out).mono ?_); rintro e w' ⟨rfl, ⟨nd, rfl⟩⟩; refine ⟨_, rfl, ?_⟩; (try (rw [drewN_self wr]; generalize hq_ : World.drewN wr _ = wr; have n0_ : Aside0 (Kd.R (Kd.int .i64) 3 wr w.heap.size (fun _ => True) (.slice (some ad109) x3_2.length co8) x3_2) := ⟨by rw [← hq_]; exact (tR HO_3.out)⟩; have n1_ : Aside0 (Below w.heap.size w wr) := ⟨by rw [← hq_]; exact tB⟩; clear HO_3 HB hq_; have HO_3 := n0_; have HB := n1_; clear n0_ n1_)); have p20 : 0 ≤ (x4_1 : Int) := of_decide_eq_true tA; have q20 : (x4_1 : Int) < ((x3_2.length : Int) : Int) := of_decide_eq_true tA; obtain ⟨go20, co20, eo20, gb20, gl20, cl20, HG20⟩ := Kd.R_form HO_3.out (by omega); (first | cases eo20 | (injection eo20 with ea_ en_ ec_; (first | subst ea_ | (injection ea_ with ea_; subst ea_)); subst ec_; clear en_)); have GB20 := Aside0.mk gb20; have GG20 := Aside0.mk HG20; clear gb20 gl20 HG20; (first | simp only [add_plain] at hx109_0 | skip); obtain ⟨hx20_0, hf20_0⟩ := Kd.R_celln 0 HO_3.out (x4_1 : Int) p20 q20; replace p20 := eq_true p20; replace q20 := eq_true q20; obtain ⟨hy21_, hz21_⟩ := Kd.R_celln 0 HO_3.out (x4_1 : Int) (of_decide_eq_true tA) (of_decide_eq_true tA); have HP21 := Kd.R_putg HO_3.out (x4_1 : Int) t110) | ((with_reducible refine gate_store (t := 3) (p := 47) rfl ?_); refine store_event (t := 3) (p := 47) (v := ?vo_w22) (w1 := (wr.setCell ⟨go20, (x4_1 : Int).toNat, none⟩ (.int .i64 t110))) ?hg ?ho ?hn ?hr ?_; (case ho => rfl); (case hg => rfl); (case hn => rfl); (case hr => first | (go_simp; done) | (go_simp; rfl)); intro w22 hw; have hg : wr.grownBy w22 (some go20) := (by rw [hw]; exact HP21.2); have hp_ : Kd.R (Kd.int .i64) 3 w22 w.heap.size (fun _ => True) (.slice (some ⟨go20, 0, none⟩) x3_2.length co8) y111 := (by rw [hw, Ny111.out]; exact HP21.1); clear HP21; replace HO_3 := Aside0.mk (hp_); replace HB := Aside0.mk ((by rw [hw]; exact below_set (HB.out) GB20.out : Below w.heap.size w w22)); clear hg hw hp_))
            (try simp only [← hl3_2])
            go_roundg k2
            case measure => have := HK1.out; have := HK2.out; omega
            case rel => exact ⟨(y111), (wrap64 (x4_1 + 1)), (by first | rfl | (simp; done) | (simp only [i64_w]; done) | (simp [*]; done)), H', ⟨by have := HK1.out; have := HK2.out; omega⟩, ⟨by (try simp only [hl3_2]); exact tR HO_3.out⟩, ⟨tB⟩⟩
           ·rw [if_neg c18] at H
            exact absurd H (by simp)
          ·rw [if_neg c17] at H
           exact absurd H (by simp)
      ·rw [if_neg c7] at H
       have c7b0 := decide_eq_false c7
       clear c7
       obtain rfl := Option.some.inj H
       obtain ⟨Ao23, co23, eo23⟩ := Kd.R_slice HO_3.out
       subst eo23
       go_wp2
       go_ret
       exact ⟨_, by first | rfl | (simp [errW_none, errW_some] <;> rfl) | (simp [*, errW_none, errW_some] <;> rfl), tR HO_3.out, tB⟩
   ·rw [if_neg c4] at H
    exact absurd H (by simp)
  ·rw [if_neg c3] at H
   exact absurd H (by simp)
 ·rw [if_neg c2] at H
  exact absurd H (by simp)

end Go.Proofs.YtdlbmbijobcljaaDoor.X

namespace Go.Proofs.YtdlbmbijobcljaaDoor.Pure
open Go.RowKit Go.Proofs.YtdlbmbijobcljaaDoor.X Go.Proofs.YtdlbmbijobcljaaDoorW.PrintWords Go.Proofs.YtdlbmbijobcljaaDoorW.PrintLast Go.Proofs.YtdlbmbijobcljaaDoorW.PrintMore
set_option linter.unusedVariables false
set_option linter.unusedSimpArgs false
set_option linter.unusedSectionVars false
/-- A sum over a list. -/
def sumL {α : Type} (f : α → Int) : List α → Int
  | [] => 0
  | x :: xs => f x + sumL f xs
theorem sumL_append {α : Type} (f : α → Int) (l m : List α) : sumL f (l ++ m) = sumL f l + sumL f m := by
  induction l with
  | nil => simp [sumL]
  | cons x xs ih => simp only [List.cons_append, sumL, ih]; omega
theorem sumL_take {α : Type} (f : α → Int) (l : List α) (j : Nat) (h : j < l.length) : sumL f (l.take (j + 1)) = sumL f (l.take j) + f l[j] := by
  rw [List.take_succ_eq_append_getElem h, sumL_append]
  simp [sumL]
theorem sumL_bound {α : Type} (f : α → Int) (B : Int) (l : List α) (h : ∀ x ∈ l, -B ≤ f x ∧ f x ≤ B) : -(B * (l.length : Int)) ≤ sumL f l ∧ sumL f l ≤ B * (l.length : Int) := by
  induction l with
  | nil => simp [sumL]
  | cons x xs ih =>
    have h1 := ih (fun y hy => h y (List.mem_cons_of_mem _ hy))
    have h2 := h x List.mem_cons_self
    simp only [sumL, List.length_cons]
    have e : B * ((xs.length + 1 : Nat) : Int) = B * (xs.length : Int) + B := by rw [Int.natCast_add, Int.mul_add]; simp
    omega
theorem sumL_congr {α : Type} (f g : α → Int) (l : List α) (h : ∀ x ∈ l, f x = g x) : sumL f l = sumL g l := by
  induction l with
  | nil => rfl
  | cons x xs ih => simp only [sumL, h x List.mem_cons_self, ih (fun y hy => h y (List.mem_cons_of_mem _ hy))]
/-- The first j elements as f says, the others as in s. -/
def mapTo (f : Nat → Int) (s : List Int) (j : Nat) : List Int := (List.range j).map f ++ s.drop j
theorem mapTo_length (f : Nat → Int) (s : List Int) (j : Nat) (h : j ≤ s.length) : (mapTo f s j).length = s.length := by simp [mapTo]; omega
theorem mapTo_set (f : Nat → Int) (s : List Int) (j : Nat) (h : j < s.length) : (mapTo f s j).set j (f j) = mapTo f s (j + 1) := by
  unfold mapTo
  rw [List.range_succ, List.map_append, List.set_append_right _ _ (by simp)]
  simp only [List.length_map, List.length_range, Nat.sub_self, List.map_cons, List.map_nil, List.append_assoc]
  congr 1
  rw [List.drop_eq_getElem_cons h]
  rfl
theorem mapTo_rd (f : Nat → Int) (s : List Int) (j : Nat) (h : j < s.length) : rd (mapTo f s j) (j : Int) = rd s (j : Int) := by
  unfold mapTo
  rw [rd_nat, rd_nat, List.getD_eq_getElem?_getD, List.getElem?_append_right (by simp), List.getD_eq_getElem?_getD]
  simp
theorem mapTo_all (f : Nat → Int) (s : List Int) : mapTo f s s.length = (List.range s.length).map f := by
  unfold mapTo
  rw [List.drop_length, List.append_nil]
theorem mapTo_set0 (f : Nat → Int) (c j : Nat) (h : j < c) : (mapTo f (List.replicate c 0) j).set j 0 = mapTo f (List.replicate c 0) j := by
  unfold mapTo
  rw [List.set_append_right _ _ (by simp)]
  simp only [List.length_map, List.length_range, Nat.sub_self]
  congr 1
  rw [List.drop_replicate]
  obtain ⟨d, e⟩ : ∃ d, c - j = d + 1 := ⟨c - j - 1, by omega⟩
  rw [e, List.replicate_succ]
  rfl
theorem rd_lt (l : List Int) (j : Nat) (h : j < l.length) : rd l (j : Int) = l[j] := by rw [rd_nat, List.getD_eq_getElem?_getD, List.getElem?_eq_getElem h]; rfl
theorem range_map_snoc {α : Type} (f : Nat → α) (j : Nat) : (List.range j).map f ++ [f j] = (List.range (j + 1)).map f := by rw [List.range_succ, List.map_append]; rfl
/-- The mean of vectors. -/
def meanOf (v : List (List Int)) : List Int := (List.range (v.getD 0 []).length).map fun (i : Nat) => rnd (sumL (fun x => rd x (i : Int)) v) (v.length : Int)
section
variable (v : List (List Int)) (c : Nat) (hv1 : 1 ≤ v.length) (hv : v.length ≤ 20000) (hc : ∀ x ∈ v, x.length = c) (hc64 : c ≤ 64) (hb : ∀ x ∈ v, ∀ y ∈ x, -1048576 ≤ y ∧ y ≤ 1048576)
include hv1 hv hc hc64 hb
theorem col_bound (i j : Nat) : -(1048576 * (j : Int)) ≤ sumL (fun x => rd x (i : Int)) (v.take j) ∧ sumL (fun x => rd x (i : Int)) (v.take j) ≤ 1048576 * (j : Int) := by
  have h1 := sumL_bound (fun x => rd x (i : Int)) 1048576 (v.take j) (fun x hx => rd_bound x 1048576 (by omega) (hb x (List.mem_of_mem_take hx)) i)
  have h2 : (v.take j).length ≤ j := List.length_take_le _ _
  omega
theorem zip_step (j : Nat) (h : j < v.length) : List.zipWith opAdd ((List.range c).map fun (i : Nat) => sumL (fun x => rd x (i : Int)) (v.take j)) v[j] = (List.range c).map fun (i : Nat) => sumL (fun x => rd x (i : Int)) (v.take (j + 1)) := by
  have hl := hc v[j] (List.getElem_mem h)
  apply List.ext_getElem
  · simp [hl]
  · intro i h1 h2
    have hi : i < c := by simpa using h2
    rw [List.getElem_zipWith, List.getElem_map, List.getElem_map, List.getElem_range, sumL_take _ _ _ h, rd_lt _ _ (by omega)]
    unfold opAdd
    have b1 := col_bound v c hv1 hv hc hc64 hb i j
    have b2 := hb v[j] (List.getElem_mem h) (v[j][i]'(by omega)) (List.getElem_mem _)
    rw [w64 (by omega) (by omega)]
theorem mean_ev : Ev (fun k => feature_mean.f k v) (meanOf v) := by
  have h0 : (v.getD 0 []).length = c := by
    rw [List.getD_eq_getElem?_getD, List.getElem?_eq_getElem (by omega)]
    exact hc _ (List.getElem_mem _)
  have e1 := up (fun j k => feature_mean.l1 k v (mapTo (fun (i : Nat) => rnd (sumL (fun x => rd x (i : Int)) v) (v.length : Int)) ((List.range c).map fun (i : Nat) => sumL (fun x => rd x (i : Int)) v) j) (c : Int) (j : Int)) (fun _ => meanOf v) c (by
      refine Ev.step (f := fun _ => some (meanOf v)) (fun k => ?_) (Ev.now _)
      simp only [feature_mean.l1]
      rw [if_neg (by omega)]
      have := mapTo_all (fun (i : Nat) => rnd (sumL (fun x => rd x (i : Int)) v) (v.length : Int)) ((List.range c).map fun (i : Nat) => sumL (fun x => rd x (i : Int)) v)
      rw [List.length_map, List.length_range] at this
      rw [this]
      unfold meanOf
      rw [h0]) (by
      rintro j hj ⟨K, ih⟩
      have hS : ((List.range c).map fun (i : Nat) => sumL (fun x => rd x (i : Int)) v).length = c := by simp
      have b := col_bound v c hv1 hv hc hc64 hb j v.length
      rw [List.take_length] at b
      have hr : rd ((List.range c).map fun (i : Nat) => sumL (fun x => rd x (i : Int)) v) (j : Int) = sumL (fun x => rd x (j : Int)) v := by
        rw [rd_lt _ _ (by omega), List.getElem_map, List.getElem_range]
      obtain ⟨K2, e2⟩ := rounded_ev (sumL (fun x => rd x (j : Int)) v) (v.length : Int) (by omega) (by omega) (by omega) (by omega) (by omega) (by omega)
      refine ⟨K + K2 + 1, fun k hk => ?_⟩
      obtain ⟨m, rfl⟩ : ∃ m, k = m + 1 := ⟨k - 1, by omega⟩
      have ih := ih m (by omega)
      have e2 := e2 m (by omega)
      dsimp only at ih e2 ⊢
      simp only [feature_mean.l1]
      rw [if_pos (by omega), if_pos (by omega), if_pos (by rw [mapTo_length _ _ _ (by omega)]; omega), mapTo_rd _ _ _ (by omega), hr, e2, Option.bind_some, Int.toNat_natCast, w64 (n := (j : Int) + 1) (by omega) (by omega)]
      rw [← mapTo_set _ _ _ (by omega)] at ih
      exact ih) 0 (by omega)
  have e0 := up (fun j k => feature_mean.l0 k v ((List.range c).map fun (i : Nat) => sumL (fun x => rd x (i : Int)) (v.take j)) v (v.length : Int) (j : Int)) (fun _ => meanOf v) v.length (by
      refine Ev.step (fun k => ?_) e1
      simp only [feature_mean.l0]
      rw [if_neg (by omega), List.take_length, List.length_map, List.length_range]
      rfl) (by
      rintro j hj ⟨K, ih⟩
      refine ⟨K + 1, fun k hk => ?_⟩
      obtain ⟨m, rfl⟩ : ∃ m, k = m + 1 := ⟨k - 1, by omega⟩
      have ih := ih m (by omega)
      dsimp only at ih ⊢
      have hl := hc v[j] (List.getElem_mem hj)
      simp only [feature_mean.l0]
      rw [if_pos (by omega), if_pos (by omega), if_pos (by omega), rd2_lt v j hj]
      unfold combined_165.f
      rw [if_pos (by simp [hl]; omega), Option.bind_some, zip_step v c hv1 hv hc hc64 hb j hj, w64 (n := (j : Int) + 1) (by omega) (by omega)]
      exact ih) 0 (by omega)
  refine Ev.congr (fun k => ?_) e0
  unfold feature_mean.f
  rw [rd2_zero, h0, if_pos (by omega), if_pos (by omega), if_pos (by omega), Int.toNat_natCast]
  have : (List.range c).map (fun (i : Nat) => sumL (fun x => rd x (i : Int)) (v.take 0)) = List.replicate c 0 := by
    apply List.ext_getElem
    · simp
    · intro i h1 h2
      simp [sumL]
  rw [this]
  rfl
theorem ref_mean_ev : Ev (fun k => earshotref03_mean.f k v) (meanOf v) := by
  have h0 : (v.getD 0 []).length = c := by
    rw [List.getD_eq_getElem?_getD, List.getElem?_eq_getElem (by omega)]
    exact hc _ (List.getElem_mem _)
  have e0 := up (fun j k => earshotref03_mean.l0 k v (mapTo (fun (i : Nat) => rnd (sumL (fun x => rd x (i : Int)) v) (v.length : Int)) (List.replicate c 0) j) (j : Int)) (fun _ => meanOf v) c (by
      refine Ev.step (f := fun _ => some (meanOf v)) (fun k => ?_) (Ev.now _)
      simp only [earshotref03_mean.l0]
      rw [if_neg (by rw [mapTo_length _ _ _ (by simp)]; simp)]
      have := mapTo_all (fun (i : Nat) => rnd (sumL (fun x => rd x (i : Int)) v) (v.length : Int)) (List.replicate c 0)
      rw [List.length_replicate] at this
      rw [this]
      unfold meanOf
      rw [h0]) (by
      intro j hj ih0
      have hR : (mapTo (fun (i : Nat) => rnd (sumL (fun x => rd x (i : Int)) v) (v.length : Int)) (List.replicate c 0) j).length = c := by rw [mapTo_length _ _ _ (by simp; omega)]; simp
      have e1 := up (fun t k => earshotref03_mean.l1 k v ((mapTo (fun (i : Nat) => rnd (sumL (fun x => rd x (i : Int)) v) (v.length : Int)) (List.replicate c 0) j).set j (sumL (fun x => rd x (j : Int)) (v.take t))) (j : Int) (t : Int)) (fun _ => meanOf v) v.length (by
        have b := col_bound v c hv1 hv hc hc64 hb j v.length
        rw [List.take_length] at b
        obtain ⟨K2, e2⟩ := round_ev (sumL (fun x => rd x (j : Int)) v) (v.length : Int) (by omega) (by omega) (by omega) (by omega) (by omega) (by omega)
        obtain ⟨K, ih⟩ := ih0
        refine ⟨K + K2 + 1, fun k hk => ?_⟩
        obtain ⟨m, rfl⟩ : ∃ m, k = m + 1 := ⟨k - 1, by omega⟩
        have ih := ih m (by omega)
        have e2 := e2 m (by omega)
        dsimp only at ih e2 ⊢
        simp only [earshotref03_mean.l1]
        rw [if_neg (by omega), if_pos (by omega), if_pos (by simp [hR]; omega), List.take_length, rd_set _ _ (by omega), e2, Option.bind_some, Int.toNat_natCast, w64 (n := (j : Int) + 1) (by omega) (by omega), List.set_set]
        rw [← mapTo_set _ _ _ (by simp; omega)] at ih
        exact ih) (by
        rintro t ht ⟨K, ih⟩
        refine ⟨K + 1, fun k hk => ?_⟩
        obtain ⟨m, rfl⟩ : ∃ m, k = m + 1 := ⟨k - 1, by omega⟩
        have ih := ih m (by omega)
        dsimp only at ih ⊢
        have hl := hc v[t] (List.getElem_mem ht)
        have b1 := col_bound v c hv1 hv hc hc64 hb j t
        have b2 := rd_bound v[t] 1048576 (by omega) (hb v[t] (List.getElem_mem ht)) (j : Int)
        simp only [earshotref03_mean.l1]
        rw [rd2_lt v t ht, if_pos (by omega), if_pos (by omega), if_pos (by simp [hR]; omega), if_pos (by omega), if_pos (by omega), rd_set _ _ (by omega), w64 (n := (t : Int) + 1) (by omega) (by omega), Int.toNat_natCast, List.set_set, w64 (by omega) (by omega)]
        rw [sumL_take _ _ _ ht] at ih
        exact ih) 0 (by omega)
      refine Ev.step (fun k => ?_) e1
      simp only [earshotref03_mean.l0]
      rw [if_pos (by omega)]
      simp only [List.take_zero, sumL]
      rw [mapTo_set0 _ _ _ hj]
      rfl) 0 (by omega)
  refine Ev.congr (fun k => ?_) e0
  unfold earshotref03_mean.f
  rw [rd2_zero, h0, if_pos (by omega), if_pos (by omega), if_pos (by omega), Int.toNat_natCast]
  rfl
end
end Go.Proofs.YtdlbmbijobcljaaDoor.Pure

namespace Go.Proofs.YtdlbmbijobcljaaDoor.X
open Go.RowKit Go.Proofs.YtdlbmbijobcljaaDoorW.PrintWords Go.Proofs.YtdlbmbijobcljaaDoorW.PrintLast Go.Proofs.YtdlbmbijobcljaaDoorW.PrintMore
attribute [local go_sem] max2_int min2_int max_two min_two max_three min_three max_four min_four   -- for this text's walks alone
set_option linter.unusedVariables false
set_option linter.unusedSimpArgs false
/-! ### earshotref03_Fits: function 63 -/
def earshotref03_Fits.f (k : Nat) (l0 : List (List Int)) (l1 : List (List Int)) : Option (Int) := (earshotref03_Wrong.f k l0).bind fun t101 => (if t101 = 0 then ((earshotref03_Book.f k l1).bind fun t102 => (if t102 = true then (if (l0.length : Int) > 0 then (if 0 < (l0.length : Int) then (if 0 < (l1.length : Int) then (if ((rd_L2 l0 0).length : Int) = ((rd_L2 l1 0).length : Int) then (some 0) else (some 2)) else (none)) else (none)) else (some 0)) else (some 2))) else (some t101))
theorem earshotref03_Fits.mono : ∀ a0 a1 k, LeO (earshotref03_Fits.f k a0 a1) (earshotref03_Fits.f (k + 1) a0 a1) := by
 intro a0 a1 k
 unfold earshotref03_Fits.f
 repeat' first
   | (with_reducible exact earshotref03_Book.mono _ _)
   | (with_reducible exact earshotref03_Wrong.mono _ _)
   | (with_reducible exact LeO.refl _)
   | (with_reducible exact LeO.none _)
   | (with_reducible refine LeO.ite ?_ ?_)
   | (with_reducible refine LeO.bind ?_ (fun _ => ?_))
   | exact earshotref03_Book.mono _ _
   | exact earshotref03_Wrong.mono _ _
   | exact LeO.none _
   | refine LeO.ite ?_ ?_
   | refine LeO.bind ?_ (fun _ => ?_)
def earshotref03_Fits.T4 : Bool × List (List Nat × List Nat) := (true, [([], []), ([0], [0]), ([1], [1]), ([2, 1], [2]), ([3], [3]), ([4, 3], [3, 4]), ([5, 3], [3, 5]), ([6, 3, 3], [3, 6]), ([7], [7]), ([8, 7], [7, 8]), ([9, 7], [7, 9]), ([10, 7], [7, 10]), ([7], [7]), ([12, 7], [7, 12]), ([13, 7], [7, 13]), ([14, 7], [7, 14]), ([11, 15, 7], [7, 11, 15]), ([7, 16, 3], [3, 7, 16]), ([3, 17], [3, 17])])
def earshotref03_Fits.B4 : List Nat := [0, 1, 3, 7, 15, 31, 63, 127, 255, 511, 1023, 2047, 255, 4351, 12543, 28927, 65535, 131071, 262143]
theorem earshotref03_Fits.tab4 : rtab .any (opsOf Tryd.f63 4) = earshotref03_Fits.T4 := by kernel_rfl
theorem earshotref03_Fits.bits4 : waitsOk earshotref03_Fits.T4.2 earshotref03_Fits.B4 = true := by kernel_rfl
set_option maxHeartbeats 8000000 in
set_option maxRecDepth 100000 in
theorem earshotref03_Fits.calls (k : Nat) (A0 : Option Addr) (c0 : Nat) (l0 : List (List Int)) (A1 : Option Addr) (c1 : Nat) (l1 : List (List Int)) (r : Int) (w : World) (hr0 : Kd.C (Kd.slice 3 (Kd.int .i64)) w A0 l0.length l0) (hc0 : l0.length ≤ c0) (hr1 : Kd.C (Kd.slice 3 (Kd.int .i64)) w A1 l1.length l1) (hc1 : l1.length ≤ c1) (h : earshotref03_Fits.f k l0 l1 = some r) :
  Calls Tryd.prog 63 #[.slice A0 l0.length c0, .slice A1 l1.length c1] w fun e w' => e = .returned (.int .i64 r) ∧ Below w.heap.size w w' := by
 have HR0 := Aside0.mk hr0
 have HC0 := Aside0.mk hc0
 clear hr0 hc0
 have HR1 := Aside0.mk hr1
 have HC1 := Aside0.mk hc1
 clear hr1 hc1
 have HB := Aside0.mk (Below.refl w.heap.size w)
 have H : ((earshotref03_Wrong.f k l0).bind fun t101 => (if t101 = 0 then ((earshotref03_Book.f k l1).bind fun t102 => (if t102 = true then (if (l0.length : Int) > 0 then (if 0 < (l0.length : Int) then (if 0 < (l1.length : Int) then (if ((rd_L2 l0 0).length : Int) = ((rd_L2 l1 0).length : Int) then (some 0) else (some 2)) else (none)) else (none)) else (some 0)) else (some 2))) else (some t101))) = some r := h
 clear h
 replace H := Option.bind_eq_some_iff.mp H
 obtain ⟨t101, A30, H⟩ := H
 try dsimp only at H
 have A3 := Aside0.mk A30
 clear A30
 by_cases c4 : t101 = 0
 ·rw [if_pos c4] at H
  have c4b0 : (t101 == 0) = true := beq_iff_eq.mpr c4
  have c4b1 : (t101 != 0) = false := bne_eq_false_iff_eq.mpr c4
  clear c4
  replace H := Option.bind_eq_some_iff.mp H
  obtain ⟨t102, A50, H⟩ := H
  try dsimp only at H
  have A5 := Aside0.mk A50
  clear A50
  by_cases c6 : t102 = true
  ·subst c6
   have H1 : (if (l0.length : Int) > 0 then (if 0 < (l0.length : Int) then (if 0 < (l1.length : Int) then (if ((rd_L2 l0 0).length : Int) = ((rd_L2 l1 0).length : Int) then (some 0) else (some 2)) else (none)) else (none)) else (some 0)) = some r := by rw [if_pos rfl] at H; exact H
   clear H
   have H := H1
   clear H1
   by_cases c7 : (l0.length : Int) > 0
   ·rw [if_pos c7] at H
    have c7b0 : decide (0 < (l0.length : Int)) = true := decide_eq_true c7
    have c7b1 : decide (0 < l0.length) = true := decide_eq_true (by omega)
    clear c7
    by_cases c8 : 0 < (l0.length : Int)
    ·rw [if_pos c8] at H
     have c8b0 := decide_eq_true c8
     have c8b1 : decide (0 < l0.length) = true := decide_eq_true (by omega)
     clear c8
     by_cases c9 : 0 < (l1.length : Int)
     ·rw [if_pos c9] at H
      have c9b0 := decide_eq_true c9
      have c9b1 : decide (0 < l1.length) = true := decide_eq_true (by omega)
      clear c9
      by_cases c10 : ((rd_L2 l0 0).length : Int) = ((rd_L2 l1 0).length : Int)
      ·rw [if_pos c10] at H
       have c10b0 : (((rd_L2 l0 0).length : Int) == ((rd_L2 l1 0).length : Int)) = true := beq_iff_eq.mpr c10
       have c10b1 : (((rd_L2 l0 0).length : Int) != ((rd_L2 l1 0).length : Int)) = false := bne_eq_false_iff_eq.mpr c10
       have c10b2 : ((rd_L2 l0 0).length == (rd_L2 l1 0).length) = true := by first | simpa using c10 | (simp at c10 ⊢; omega)
       clear c10
       obtain rfl := Option.some.inj H
       go_enter Tryd.func63, Tryd.ntmps63
       try go_wp2_with (first | ((with_reducible refine gate_callee (f := 58) rfl ?_); refine goesL_ (some 7) rfl rfl Tryd.func58 (by kernel_rfl) rfl #[.slice A0 l0.length c0] rfl tL ?_; (with_reducible refine (earshotref03_Wrong.calls k _ _ l0 t101 _ ?side1 ?side2 A3.out).mono ?_); (case side1 => exact tC HR0.out); (case side2 => exact HC0.out); rintro e w11 ⟨rfl, hb⟩; refine ⟨_, rfl, ?_⟩; replace HB := Aside0.mk (below_step tB hb); (try clear hb); (try clear hb2); (try clear hk); (try clear hi)))
       replace HB := Aside0.mk (below_drew1 HB.out)
       have p103 : 0 ≤ (0 : Int) := (by omega)
       have q103 : 0 < (l0.length : Int) := of_decide_eq_true tA
       obtain ⟨ad103, A103_0, c103_0, e103, hx103_0, hl103_0, hi103_0⟩ := at_L2 HR0.out 0 p103 q103
       have hw103_0 := hx103_0
       (try rw [show ((0 : Int)).toNat = 0 from rfl] at hw103_0)
       (try rw [show 0 * 1 = 0 from rfl] at hw103_0)
       (try rw [Addr.add_zero'] at hw103_0)
       cases e103
       have qi103 : (0 < l0.length) = True := eq_true (by omega)
       (try rw [show ((0 : Int)).toNat = 0 from rfl] at hx103_0)
       (try rw [Addr.add_zero'] at hx103_0)
       replace hx103_0 := (HB.out.cell (World.block_lt_of_cell? w _ hx103_0)).trans hx103_0
       have HR103_0 := Aside0.mk hi103_0
       have HC103_0 := Aside0.mk hl103_0
       clear hi103_0 hl103_0
       replace p103 := eq_true p103
       replace q103 := eq_true q103
       have p104 : 0 ≤ (0 : Int) := (by omega)
       have q104 : 0 < (l1.length : Int) := of_decide_eq_true tA
       obtain ⟨ad104, A104_0, c104_0, e104, hx104_0, hl104_0, hi104_0⟩ := at_L2 HR1.out 0 p104 q104
       have hw104_0 := hx104_0
       (try rw [show ((0 : Int)).toNat = 0 from rfl] at hw104_0)
       (try rw [show 0 * 1 = 0 from rfl] at hw104_0)
       (try rw [Addr.add_zero'] at hw104_0)
       cases e104
       have qi104 : (0 < l1.length) = True := eq_true (by omega)
       (try rw [show ((0 : Int)).toNat = 0 from rfl] at hx104_0)
       (try rw [Addr.add_zero'] at hx104_0)
       replace hx104_0 := (HB.out.cell (World.block_lt_of_cell? w _ hx104_0)).trans hx104_0
       have HR104_0 := Aside0.mk hi104_0
       have HC104_0 := Aside0.mk hl104_0
       clear hi104_0 hl104_0
       replace p104 := eq_true p104
       replace q104 := eq_true q104
       refine start_ (n := 19) (S := fun w' => w'.cell? ad103 = some (.slice A103_0 (rd_L2 l0 0).length c103_0) ∧ w'.cell? ad104 = some (.slice A104_0 (rd_L2 l1 0).length c104_0)) (ds := []) (bm 0 19) (by kernel_rfl) rfl rfl ⟨((HB.out.cell (World.block_lt_of_cell? w _ hw103_0)).trans hw103_0), ((HB.out.cell (World.block_lt_of_cell? w _ hw104_0)).trans hw104_0)⟩ (fun hHeld => ?_); refine with_tabW earshotref03_Fits.tab4 earshotref03_Fits.bits4 (fun HT_ HW_ => ?_)
       generalize w11.drew = w12 at HB HR103_0 HR104_0 hx103_0 hx104_0 hHeld ⊢
       refine pI 0 (some 11) (bm 1 19) HT_.out ?_
       refine one_ (i := 1) (N := some 12) (bm 2 19) rfl rfl (one_of HT_.out (by kernel_rfl)) (by decide) (fun K hK => ?_)
       refine goes_ Tryd.func34 (by kernel_rfl) rfl #[.slice _ l1.length c1] (by rfl) rfl rfl tL ?_
       with_reducible refine (earshotref03_Book.calls k _ _ l1 true _ ?side1 ?side2 A5.out).mono ?_
       (case side1 => exact tC (Kd.C_below HR1.out HB.out))
       (case side2 => exact HC1.out)
       rintro e w13 ⟨rfl, hb⟩
       refine ⟨_, rfl, ?_⟩
       replace HB := Aside0.mk (below_step tB hb)
       (try clear hb)
       (try clear hb2)
       (try clear hk)
       (try clear hi)
       refine hK.out _ _ ⟨((HB.out.cell (World.block_lt_of_cell? w _ hw103_0)).trans hw103_0), ((HB.out.cell (World.block_lt_of_cell? w _ hw104_0)).trans hw104_0)⟩ (fun hHeld => ?_)
       clear hK K
       refine nm ?_
       refine pI 2 (some 13) (bm 3 19) HT_.out ?_
       refine pI 3 (some 14) (bm 4 19) HT_.out ?_
       refine pI 4 (some 15) (bm 5 19) HT_.out ?_
       refine pI 5 (some 16) (bm 6 19) HT_.out ?_
       refine pI 6 (some 17) (bm 7 19) HT_.out ?_
       refine pI 7 (some 18) (bm 8 19) HT_.out ?_
       refine pI 8 (some 19) (bm 9 19) HT_.out ?_
       refine pI 9 (some 20) (bm 10 19) HT_.out ?_
       refine pI 12 (some 23) (bq 5119 19) HT_.out ?_
       refine pI 13 (some 24) (bq 13311 19) HT_.out ?_
       refine tk2 10 (some 21) (bq 14335 19) HT_.out HW_.out hHeld ?_
       refine pI 11 (some 22) (bm 14 19) HT_.out ?_
       refine tk2 14 (some 25) (bm 15 19) HT_.out HW_.out hHeld ?_
       refine pI 15 (some 26) (bm 16 19) HT_.out ?_
       refine pI 16 (some 27) (bm 17 19) HT_.out ?_
       refine pI 17 (some 28) (bm 18 19) HT_.out ?_
       refine pI 18 (some 29) (bm 19 19) HT_.out ?_
       refine done_ (done_of HT_.out (by kernel_rfl)) ?_
       try go_wp2
       go_ret
       exact ⟨by first | rfl | (simp [errW_none, errW_some] <;> rfl) | (simp [*, errW_none, errW_some] <;> rfl), tB⟩
      ·rw [if_neg c10] at H
       have c10b0 : (((rd_L2 l0 0).length : Int) == ((rd_L2 l1 0).length : Int)) = false := beq_eq_false_iff_ne.mpr c10
       have c10b1 : (((rd_L2 l0 0).length : Int) != ((rd_L2 l1 0).length : Int)) = true := bne_iff_ne.mpr c10
       have c10b2 : ((rd_L2 l0 0).length == (rd_L2 l1 0).length) = false := by first | simpa using c10 | (simp at c10 ⊢; omega)
       obtain rfl := Option.some.inj H
       go_enter Tryd.func63, Tryd.ntmps63
       try go_wp2_with (first | ((with_reducible refine gate_callee (f := 58) rfl ?_); refine goesL_ (some 7) rfl rfl Tryd.func58 (by kernel_rfl) rfl #[.slice A0 l0.length c0] rfl tL ?_; (with_reducible refine (earshotref03_Wrong.calls k _ _ l0 t101 _ ?side1 ?side2 A3.out).mono ?_); (case side1 => exact tC HR0.out); (case side2 => exact HC0.out); rintro e w14 ⟨rfl, hb⟩; refine ⟨_, rfl, ?_⟩; replace HB := Aside0.mk (below_step tB hb); (try clear hb); (try clear hb2); (try clear hk); (try clear hi)))
       replace HB := Aside0.mk (below_drew1 HB.out)
       have p103 : 0 ≤ (0 : Int) := (by omega)
       have q103 : 0 < (l0.length : Int) := of_decide_eq_true tA
       obtain ⟨ad103, A103_0, c103_0, e103, hx103_0, hl103_0, hi103_0⟩ := at_L2 HR0.out 0 p103 q103
       have hw103_0 := hx103_0
       (try rw [show ((0 : Int)).toNat = 0 from rfl] at hw103_0)
       (try rw [show 0 * 1 = 0 from rfl] at hw103_0)
       (try rw [Addr.add_zero'] at hw103_0)
       cases e103
       have qi103 : (0 < l0.length) = True := eq_true (by omega)
       (try rw [show ((0 : Int)).toNat = 0 from rfl] at hx103_0)
       (try rw [Addr.add_zero'] at hx103_0)
       replace hx103_0 := (HB.out.cell (World.block_lt_of_cell? w _ hx103_0)).trans hx103_0
       have HR103_0 := Aside0.mk hi103_0
       have HC103_0 := Aside0.mk hl103_0
       clear hi103_0 hl103_0
       replace p103 := eq_true p103
       replace q103 := eq_true q103
       have p104 : 0 ≤ (0 : Int) := (by omega)
       have q104 : 0 < (l1.length : Int) := of_decide_eq_true tA
       obtain ⟨ad104, A104_0, c104_0, e104, hx104_0, hl104_0, hi104_0⟩ := at_L2 HR1.out 0 p104 q104
       have hw104_0 := hx104_0
       (try rw [show ((0 : Int)).toNat = 0 from rfl] at hw104_0)
       (try rw [show 0 * 1 = 0 from rfl] at hw104_0)
       (try rw [Addr.add_zero'] at hw104_0)
       cases e104
       have qi104 : (0 < l1.length) = True := eq_true (by omega)
       (try rw [show ((0 : Int)).toNat = 0 from rfl] at hx104_0)
       (try rw [Addr.add_zero'] at hx104_0)
       replace hx104_0 := (HB.out.cell (World.block_lt_of_cell? w _ hx104_0)).trans hx104_0
       have HR104_0 := Aside0.mk hi104_0
       have HC104_0 := Aside0.mk hl104_0
       clear hi104_0 hl104_0
       replace p104 := eq_true p104
       replace q104 := eq_true q104
       refine start_ (n := 19) (S := fun w' => w'.cell? ad103 = some (.slice A103_0 (rd_L2 l0 0).length c103_0) ∧ w'.cell? ad104 = some (.slice A104_0 (rd_L2 l1 0).length c104_0)) (ds := []) (bm 0 19) (by kernel_rfl) rfl rfl ⟨((HB.out.cell (World.block_lt_of_cell? w _ hw103_0)).trans hw103_0), ((HB.out.cell (World.block_lt_of_cell? w _ hw104_0)).trans hw104_0)⟩ (fun hHeld => ?_); refine with_tabW earshotref03_Fits.tab4 earshotref03_Fits.bits4 (fun HT_ HW_ => ?_)
       generalize w14.drew = w15 at HB HR103_0 HR104_0 hx103_0 hx104_0 hHeld ⊢
       refine pI 0 (some 11) (bm 1 19) HT_.out ?_
       refine one_ (i := 1) (N := some 12) (bm 2 19) rfl rfl (one_of HT_.out (by kernel_rfl)) (by decide) (fun K hK => ?_)
       refine goes_ Tryd.func34 (by kernel_rfl) rfl #[.slice _ l1.length c1] (by rfl) rfl rfl tL ?_
       with_reducible refine (earshotref03_Book.calls k _ _ l1 true _ ?side1 ?side2 A5.out).mono ?_
       (case side1 => exact tC (Kd.C_below HR1.out HB.out))
       (case side2 => exact HC1.out)
       rintro e w16 ⟨rfl, hb⟩
       refine ⟨_, rfl, ?_⟩
       replace HB := Aside0.mk (below_step tB hb)
       (try clear hb)
       (try clear hb2)
       (try clear hk)
       (try clear hi)
       refine hK.out _ _ ⟨((HB.out.cell (World.block_lt_of_cell? w _ hw103_0)).trans hw103_0), ((HB.out.cell (World.block_lt_of_cell? w _ hw104_0)).trans hw104_0)⟩ (fun hHeld => ?_)
       clear hK K
       refine nm ?_
       refine pI 2 (some 13) (bm 3 19) HT_.out ?_
       refine pI 3 (some 14) (bm 4 19) HT_.out ?_
       refine pI 4 (some 15) (bm 5 19) HT_.out ?_
       refine pI 5 (some 16) (bm 6 19) HT_.out ?_
       refine pI 6 (some 17) (bm 7 19) HT_.out ?_
       refine pI 7 (some 18) (bm 8 19) HT_.out ?_
       refine pI 8 (some 19) (bm 9 19) HT_.out ?_
       refine pI 9 (some 20) (bm 10 19) HT_.out ?_
       refine pI 12 (some 23) (bq 5119 19) HT_.out ?_
       refine pI 13 (some 24) (bq 13311 19) HT_.out ?_
       refine tk2 10 (some 21) (bq 14335 19) HT_.out HW_.out hHeld ?_
       refine pI 11 (some 22) (bm 14 19) HT_.out ?_
       refine tk2 14 (some 25) (bm 15 19) HT_.out HW_.out hHeld ?_
       refine pI 15 (some 26) (bm 16 19) HT_.out ?_
       refine pI 16 (some 27) (bm 17 19) HT_.out ?_
       refine pI 17 (some 28) (bm 18 19) HT_.out ?_
       refine pI 18 (some 29) (bm 19 19) HT_.out ?_
       refine done_ (done_of HT_.out (by kernel_rfl)) ?_
       try go_wp2
       go_ret
       exact ⟨by first | rfl | (simp [errW_none, errW_some] <;> rfl) | (simp [*, errW_none, errW_some] <;> rfl), tB⟩
     ·rw [if_neg c9] at H
      exact absurd H (by simp)
    ·rw [if_neg c8] at H
     exact absurd H (by simp)
   ·rw [if_neg c7] at H
    have c7b0 : decide (0 < (l0.length : Int)) = false := decide_eq_false c7
    have c7b1 : decide (0 < l0.length) = false := decide_eq_false (by omega)
    clear c7
    obtain rfl := Option.some.inj H
    go_enter Tryd.func63, Tryd.ntmps63
    try go_wp2_with (first | ((with_reducible refine gate_callee (f := 58) rfl ?_); refine goesL_ (some 7) rfl rfl Tryd.func58 (by kernel_rfl) rfl #[.slice A0 l0.length c0] rfl tL ?_; (with_reducible refine (earshotref03_Wrong.calls k _ _ l0 t101 _ ?side1 ?side2 A3.out).mono ?_); (case side1 => exact tC HR0.out); (case side2 => exact HC0.out); rintro e w17 ⟨rfl, hb⟩; refine ⟨_, rfl, ?_⟩; replace HB := Aside0.mk (below_step tB hb); (try clear hb); (try clear hb2); (try clear hk); (try clear hi)))
    replace HB := Aside0.mk (below_drew1 HB.out)
    refine start_ (n := 19) (S := fun w' => True) (ds := []) (bm 0 19) (by kernel_rfl) rfl rfl trivial (fun hHeld => ?_); refine with_tabW earshotref03_Fits.tab4 earshotref03_Fits.bits4 (fun HT_ HW_ => ?_)
    generalize w17.drew = w18 at HB hHeld ⊢
    refine pI 0 (some 11) (bm 1 19) HT_.out ?_
    refine one_ (i := 1) (N := some 12) (bm 2 19) rfl rfl (one_of HT_.out (by kernel_rfl)) (by decide) (fun K hK => ?_)
    refine goes_ Tryd.func34 (by kernel_rfl) rfl #[.slice _ l1.length c1] (by rfl) rfl rfl tL ?_
    with_reducible refine (earshotref03_Book.calls k _ _ l1 true _ ?side1 ?side2 A5.out).mono ?_
    (case side1 => exact tC (Kd.C_below HR1.out HB.out))
    (case side2 => exact HC1.out)
    rintro e w19 ⟨rfl, hb⟩
    refine ⟨_, rfl, ?_⟩
    replace HB := Aside0.mk (below_step tB hb)
    (try clear hb)
    (try clear hb2)
    (try clear hk)
    (try clear hi)
    refine hK.out _ _ trivial (fun hHeld => ?_)
    clear hK K
    refine nm ?_
    refine pI 2 (some 13) (bm 3 19) HT_.out ?_
    refine pI 3 (some 14) (bm 4 19) HT_.out ?_
    refine pI 4 (some 15) (bm 5 19) HT_.out ?_
    refine pI 5 (some 16) (bm 6 19) HT_.out ?_
    refine pI 6 (some 17) (bm 7 19) HT_.out ?_
    refine pI 7 (some 18) (bm 8 19) HT_.out ?_
    refine pO 8 (some 19) (bm 9 19) HT_.out ?_
    refine pO 9 (some 20) (bm 10 19) HT_.out ?_
    refine pO 10 (some 21) (bm 11 19) HT_.out ?_
    refine pO 11 (some 22) (bm 12 19) HT_.out ?_
    refine pO 12 (some 23) (bm 13 19) HT_.out ?_
    refine pO 13 (some 24) (bm 14 19) HT_.out ?_
    refine pO 14 (some 25) (bm 15 19) HT_.out ?_
    refine pO 15 (some 26) (bm 16 19) HT_.out ?_
    refine pO 16 (some 27) (bm 17 19) HT_.out ?_
    refine pI 17 (some 28) (bm 18 19) HT_.out ?_
    refine pI 18 (some 29) (bm 19 19) HT_.out ?_
    refine done_ (done_of HT_.out (by kernel_rfl)) ?_
    try go_wp2
    go_ret
    exact ⟨by first | rfl | (simp [errW_none, errW_some] <;> rfl) | (simp [*, errW_none, errW_some] <;> rfl), tB⟩
  ·replace c6 := Bool.eq_false_iff.mpr c6
   subst c6
   have H1 : (some 2) = some r := by rw [if_neg (show ¬ (false = true) by decide)] at H; exact H
   clear H
   have H := H1
   clear H1
   obtain rfl := Option.some.inj H
   go_enter Tryd.func63, Tryd.ntmps63
   try go_wp2_with (first | ((with_reducible refine gate_callee (f := 58) rfl ?_); refine goesL_ (some 7) rfl rfl Tryd.func58 (by kernel_rfl) rfl #[.slice A0 l0.length c0] rfl tL ?_; (with_reducible refine (earshotref03_Wrong.calls k _ _ l0 t101 _ ?side1 ?side2 A3.out).mono ?_); (case side1 => exact tC HR0.out); (case side2 => exact HC0.out); rintro e w20 ⟨rfl, hb⟩; refine ⟨_, rfl, ?_⟩; replace HB := Aside0.mk (below_step tB hb); (try clear hb); (try clear hb2); (try clear hk); (try clear hi)))
   replace HB := Aside0.mk (below_drew1 HB.out)
   refine start_ (n := 19) (S := fun w' => True) (ds := []) (bm 0 19) (by kernel_rfl) rfl rfl trivial (fun hHeld => ?_); refine with_tabW earshotref03_Fits.tab4 earshotref03_Fits.bits4 (fun HT_ HW_ => ?_)
   generalize w20.drew = w21 at HB hHeld ⊢
   refine pI 0 (some 11) (bm 1 19) HT_.out ?_
   refine one_ (i := 1) (N := some 12) (bm 2 19) rfl rfl (one_of HT_.out (by kernel_rfl)) (by decide) (fun K hK => ?_)
   refine goes_ Tryd.func34 (by kernel_rfl) rfl #[.slice _ l1.length c1] (by rfl) rfl rfl tL ?_
   with_reducible refine (earshotref03_Book.calls k _ _ l1 false _ ?side1 ?side2 A5.out).mono ?_
   (case side1 => exact tC (Kd.C_below HR1.out HB.out))
   (case side2 => exact HC1.out)
   rintro e w22 ⟨rfl, hb⟩
   refine ⟨_, rfl, ?_⟩
   replace HB := Aside0.mk (below_step tB hb)
   (try clear hb)
   (try clear hb2)
   (try clear hk)
   (try clear hi)
   refine hK.out _ _ trivial (fun hHeld => ?_)
   clear hK K
   refine nm ?_
   refine pI 2 (some 13) (bm 3 19) HT_.out ?_
   refine pI 3 (some 14) (bm 4 19) HT_.out ?_
   refine pO 4 (some 15) (bm 5 19) HT_.out ?_
   refine pO 5 (some 16) (bm 6 19) HT_.out ?_
   refine pO 6 (some 17) (bm 7 19) HT_.out ?_
   refine pO 7 (some 18) (bm 8 19) HT_.out ?_
   refine pO 8 (some 19) (bm 9 19) HT_.out ?_
   refine pO 9 (some 20) (bm 10 19) HT_.out ?_
   refine pO 10 (some 21) (bm 11 19) HT_.out ?_
   refine pO 11 (some 22) (bm 12 19) HT_.out ?_
   refine pO 12 (some 23) (bm 13 19) HT_.out ?_
   refine pO 13 (some 24) (bm 14 19) HT_.out ?_
   refine pO 14 (some 25) (bm 15 19) HT_.out ?_
   refine pO 15 (some 26) (bm 16 19) HT_.out ?_
   refine pO 16 (some 27) (bm 17 19) HT_.out ?_
   refine pO 17 (some 28) (bm 18 19) HT_.out ?_
   refine pI 18 (some 29) (bm 19 19) HT_.out ?_
   refine done_ (done_of HT_.out (by kernel_rfl)) ?_
   try go_wp2
   go_ret
   exact ⟨by first | rfl | (simp [errW_none, errW_some] <;> rfl) | (simp [*, errW_none, errW_some] <;> rfl), tB⟩
 ·rw [if_neg c4] at H
  have c4b0 : (t101 == 0) = false := beq_eq_false_iff_ne.mpr c4
  have c4b1 : (t101 != 0) = true := bne_iff_ne.mpr c4
  obtain rfl := Option.some.inj H
  go_enter Tryd.func63, Tryd.ntmps63
  go_wp2_with (first | ((with_reducible refine gate_callee (f := 58) rfl ?_); refine goesL_ (some 7) rfl rfl Tryd.func58 (by kernel_rfl) rfl #[.slice A0 l0.length c0] rfl tL ?_; (with_reducible refine (earshotref03_Wrong.calls k _ _ l0 t101 _ ?side1 ?side2 A3.out).mono ?_); (case side1 => exact tC HR0.out); (case side2 => exact HC0.out); rintro e w23 ⟨rfl, hb⟩; refine ⟨_, rfl, ?_⟩; replace HB := Aside0.mk (below_step tB hb); (try clear hb); (try clear hb2); (try clear hk); (try clear hi)))
  go_ret
  exact ⟨by first | rfl | (simp [errW_none, errW_some] <;> rfl) | (simp [*, errW_none, errW_some] <;> rfl), tB⟩

end Go.Proofs.YtdlbmbijobcljaaDoor.X

namespace Go.Proofs.YtdlbmbijobcljaaDoor.Pure
open Go.RowKit Go.Proofs.YtdlbmbijobcljaaDoor.X Go.Proofs.YtdlbmbijobcljaaDoorW.PrintWords Go.Proofs.YtdlbmbijobcljaaDoorW.PrintLast Go.Proofs.YtdlbmbijobcljaaDoorW.PrintMore
set_option linter.unusedVariables false
set_option linter.unusedSimpArgs false
set_option linter.unusedSectionVars false
/-- A vector of c components. -/
def Vec (c : Nat) (x : List Int) : Prop := x.length = c ∧ 1 ≤ c ∧ c ≤ 64 ∧ ∀ y ∈ x, -1048576 ≤ y ∧ y ≤ 1048576
/-- The distance of the first components. -/
def distTo (a b : List Int) : Nat → Int
  | 0 => 0
  | i + 1 => distTo a b i + (rd a (i : Int) - rd b (i : Int)) * (rd a (i : Int) - rd b (i : Int))
def dst (a b : List Int) : Int := distTo a b a.length
theorem sq_bound (a b : Int) (ha : -1048576 ≤ a ∧ a ≤ 1048576) (hb : -1048576 ≤ b ∧ b ≤ 1048576) : 0 ≤ (a - b) * (a - b) ∧ (a - b) * (a - b) ≤ 4398046511104 := by
  have h := mul_bound (a - b) (a - b) 2097152 2097152 (by omega) (by omega) (by omega) (by omega)
  refine ⟨?_, by omega⟩
  by_cases h0 : 0 ≤ a - b
  · exact Int.mul_nonneg h0 h0
  · exact Int.mul_nonneg_of_nonpos_of_nonpos (by omega) (by omega)
section
variable {c : Nat} {a b : List Int} (ha : Vec c a) (hb : Vec c b)
include ha hb
theorem dist_step (i : Nat) : 0 ≤ (rd a (i : Int) - rd b (i : Int)) * (rd a (i : Int) - rd b (i : Int)) ∧ (rd a (i : Int) - rd b (i : Int)) * (rd a (i : Int) - rd b (i : Int)) ≤ 4398046511104 :=
  sq_bound _ _ (rd_bound a 1048576 (by omega) ha.2.2.2 _) (rd_bound b 1048576 (by omega) hb.2.2.2 _)
theorem distTo_bound (i : Nat) : 0 ≤ distTo a b i ∧ distTo a b i ≤ 4398046511104 * (i : Int) := by
  induction i with
  | zero => simp [distTo]
  | succ i ih =>
    have h := dist_step ha hb i
    simp only [distTo]
    omega
theorem distTo_mono (i d : Nat) : distTo a b i ≤ distTo a b (i + d) := by
  induction d with
  | zero => exact Int.le_refl _
  | succ d ih =>
    have h := dist_step ha hb (i + d)
    rw [show i + (d + 1) = (i + d) + 1 by omega]
    simp only [distTo]
    omega
theorem dist_add (i : Nat) (hi : i < c) : wrap64 (distTo a b i + wrap64 (wrap64 (rd a (i : Int) - rd b (i : Int)) * wrap64 (rd a (i : Int) - rd b (i : Int)))) = distTo a b (i + 1) := by
  have h := dist_step ha hb i
  have h2 := distTo_bound ha hb i
  have h3 := rd_bound a 1048576 (by omega) ha.2.2.2 (i : Int)
  have h4 := rd_bound b 1048576 (by omega) hb.2.2.2 (i : Int)
  have h5 := ha.2.2.1
  rw [w64 (n := rd a (i : Int) - rd b (i : Int)) (by omega) (by omega), w64 (n := (rd a (i : Int) - rd b (i : Int)) * (rd a (i : Int) - rd b (i : Int))) (by omega) (by omega)]
  simp only [distTo]
  rw [w64 (by omega) (by omega)]
theorem dst_bound : 0 ≤ dst a b ∧ dst a b ≤ 281474976710656 := by
  have h := distTo_bound ha hb a.length
  have h1 := ha.1
  have h2 := ha.2.2.1
  unfold dst
  omega
theorem Distance_ev : Ev (fun k => earshotref03_Distance.f k a b) (dst a b) := by
  have l1 := ha.1
  have l2 := hb.1
  have l3 := ha.2.2.1
  have e := up (fun j k => earshotref03_Distance.l0 k a b (distTo a b j) (j : Int)) (fun _ => dst a b) c (by
      refine Ev.step (f := fun _ => some (dst a b)) (fun k => ?_) (Ev.now _)
      simp only [earshotref03_Distance.l0]
      rw [if_neg (by omega)]
      unfold dst
      rw [l1]) (by
      rintro j hj ⟨K, ih⟩
      refine ⟨K + 1, fun k hk => ?_⟩
      obtain ⟨m, rfl⟩ : ∃ m, k = m + 1 := ⟨k - 1, by omega⟩
      have ih := ih m (by omega)
      dsimp only at ih ⊢
      simp only [earshotref03_Distance.l0]
      rw [if_pos (by omega), if_pos (by omega), if_pos (by omega), dist_add ha hb j hj, w64 (n := (j : Int) + 1) (by omega) (by omega)]
      exact ih) 0 (by omega)
  exact e
end
/-- The nearest one of the first codewords, and its distance. -/
def nearTo (v : List Int) (book : List (List Int)) : Nat → Int × Int
  | 0 => (-1, 4611686018427387904)
  | j + 1 => if dst v (book.getD j []) < (nearTo v book j).2 then ((j : Int), dst v (book.getD j [])) else nearTo v book j
def near (v : List Int) (book : List (List Int)) : Int × Int := nearTo v book book.length
section
variable {c : Nat} {v : List Int} {book : List (List Int)} (hv : Vec c v) (hb : ∀ x ∈ book, Vec c x)
include hv hb
theorem book_get (j : Nat) (hj : j < book.length) : Vec c (book.getD j []) := by
  rw [List.getD_eq_getElem?_getD, List.getElem?_eq_getElem hj]
  exact hb _ (List.getElem_mem hj)
theorem nearTo_ok : ∀ j, 1 ≤ j → j ≤ book.length → 0 ≤ (nearTo v book j).1 ∧ (nearTo v book j).1 < (j : Int) ∧ (nearTo v book j).2 = dst v (book.getD (nearTo v book j).1.toNat []) := by
  intro j
  induction j with
  | zero => intro h; omega
  | succ j ih =>
    intro _ hj
    have hB := dst_bound hv (book_get hv hb j (by omega))
    simp only [nearTo]
    by_cases h : dst v (book.getD j []) < (nearTo v book j).2
    · rw [if_pos h]
      exact ⟨by omega, by show (j : Int) < ((j + 1 : Nat) : Int); omega, by simp⟩
    · rw [if_neg h]
      by_cases h0 : j = 0
      · subst h0
        exact absurd (show dst v (book.getD 0 []) < (nearTo v book 0).2 by simp only [nearTo]; omega) h
      · have := ih (by omega) (by omega)
        exact ⟨this.1, by omega, this.2.2⟩
theorem nearTo_least : ∀ j, j ≤ book.length → ∀ i, i < j → (nearTo v book j).2 ≤ dst v (book.getD i []) := by
  intro j
  induction j with
  | zero => intro _ i hi; omega
  | succ j ih =>
    intro hj i hi
    simp only [nearTo]
    by_cases h : dst v (book.getD j []) < (nearTo v book j).2
    · rw [if_pos h]
      by_cases e : i = j
      · subst e; exact Int.le_refl _
      · have := ih (by omega) i (by omega)
        show dst v (book.getD j []) ≤ _
        omega
    · rw [if_neg h]
      by_cases e : i = j
      · subst e; omega
      · exact ih (by omega) i (by omega)
theorem nearTo_range (j : Nat) (hj : j ≤ book.length) : 0 ≤ (nearTo v book j).2 ∧ (nearTo v book j).2 ≤ 4611686018427387904 := by
  by_cases h0 : j = 0
  · subst h0; simp [nearTo]
  · have h := nearTo_ok hv hb j (by omega) hj
    have h2 := dst_bound hv (book_get hv hb (nearTo v book j).1.toNat (by omega))
    omega
theorem near_row (hbl : book.length ≤ 1000000) (j : Nat) (hj : j < book.length) (R : Int × Int)
    (h : Ev (fun k => feature_nearest.l0 k v (nearTo v book (j + 1)).1 (nearTo v book (j + 1)).2 book (book.length : Int) ((j + 1 : Nat) : Int)) R) :
    ∀ d i : Nat, i + d = c → (i = 0 ∨ distTo v (book.getD j []) i < (nearTo v book j).2) →
      Ev (fun k => feature_nearest.l1 k v (nearTo v book j).1 (nearTo v book j).2 (j : Int) (book.getD j []) (distTo v (book.getD j []) i) book (book.length : Int) (j : Int) (c : Int) (i : Int)) R := by
  have hc := book_get hv hb j hj
  have l1 := hv.1
  have l2 := hc.1
  have l3 := hv.2.1
  have l4 := hv.2.2.1
  intro d
  induction d with
  | zero =>
    intro i hi hlt
    obtain rfl : i = c := by omega
    have hlt2 : dst v (book.getD j []) < (nearTo v book j).2 := by unfold dst; rw [l1]; rcases hlt with h | h; omega; exact h
    obtain ⟨K, ih⟩ := h
    refine ⟨K + 1, fun k hk => ?_⟩
    obtain ⟨m, rfl⟩ : ∃ m, k = m + 1 := ⟨k - 1, by omega⟩
    have ih := ih m (by omega)
    dsimp only at ih ⊢
    simp only [feature_nearest.l1]
    rw [if_neg (by omega), w64 (n := (j : Int) + 1) (by omega) (by omega)]
    simp only [nearTo] at ih
    rw [if_pos hlt2] at ih
    unfold dst at ih
    rw [l1] at ih
    exact ih
  | succ d ihd =>
    intro i hi hlt
    have hadd := dist_add hv hc i (by omega)
    by_cases hge : distTo v (book.getD j []) (i + 1) ≥ (nearTo v book j).2
    · have hm := distTo_mono hv hc (i + 1) d
      have hnl : ¬ dst v (book.getD j []) < (nearTo v book j).2 := by
        unfold dst
        rw [l1, show c = (i + 1) + d by omega]
        omega
      obtain ⟨K, ih⟩ := h
      refine ⟨K + 1, fun k hk => ?_⟩
      obtain ⟨m, rfl⟩ : ∃ m, k = m + 1 := ⟨k - 1, by omega⟩
      have ih := ih m (by omega)
      dsimp only at ih ⊢
      simp only [feature_nearest.l1]
      rw [hadd, if_pos (by omega), if_pos (by omega), if_pos (by omega), if_pos (by omega), if_pos hge, w64 (n := (j : Int) + 1) (by omega) (by omega)]
      simp only [nearTo] at ih
      rw [if_neg hnl] at ih
      exact ih
    · obtain ⟨K, ih⟩ := ihd (i + 1) (by omega) (.inr (by omega))
      refine ⟨K + 1, fun k hk => ?_⟩
      obtain ⟨m, rfl⟩ : ∃ m, k = m + 1 := ⟨k - 1, by omega⟩
      have ih := ih m (by omega)
      dsimp only at ih ⊢
      simp only [feature_nearest.l1]
      rw [hadd, if_pos (by omega), if_pos (by omega), if_pos (by omega), if_pos (by omega), if_neg hge, w64 (n := (i : Int) + 1) (by omega) (by omega)]
      exact ih
theorem nearest_ev (hbl : book.length ≤ 1000000) : Ev (fun k => feature_nearest.f k v book) (near v book) := by
  have e := up (fun j k => feature_nearest.l0 k v (nearTo v book j).1 (nearTo v book j).2 book (book.length : Int) (j : Int)) (fun _ => near v book) book.length (by
      refine Ev.step (f := fun _ => some (near v book)) (fun k => ?_) (Ev.now _)
      simp only [feature_nearest.l0]
      rw [if_neg (by omega)]
      rfl) (by
      intro j hj ih
      obtain ⟨K, e1⟩ := near_row hv hb hbl j hj (near v book) ih c 0 (by omega) (.inl rfl)
      refine ⟨K + 1, fun k hk => ?_⟩
      obtain ⟨m, rfl⟩ : ∃ m, k = m + 1 := ⟨k - 1, by omega⟩
      have e1 := e1 m (by omega)
      dsimp only at e1 ⊢
      simp only [feature_nearest.l0]
      rw [if_pos (by omega), if_pos (by omega), if_pos (by omega), rd2_nat, (book_get hv hb j hj).1]
      exact e1) 0 (by omega)
  exact e
theorem ref_nearest_ev (hbl : book.length ≤ 1000000) (hb1 : 1 ≤ book.length) : Ev (fun k => earshotref03_Nearest.f k v book) (near v book).1 := by
  have hvl := hv.2.2.1
  have e := up (fun j k => if j = 0 then some (near v book).1 else earshotref03_Nearest.l0 k v book (nearTo v book j).1 (j : Int)) (fun _ => (near v book).1) book.length (by
      refine Ev.step (f := fun _ => some (near v book).1) (fun k => ?_) (Ev.now _)
      rw [if_neg (by omega)]
      simp only [earshotref03_Nearest.l0]
      rw [if_neg (by omega)]
      rfl) (by
      rintro j hj ⟨K, ih⟩
      by_cases h0 : j = 0
      · exact ⟨0, fun k _ => by dsimp only; rw [if_pos h0]⟩
      · have hok := nearTo_ok hv hb j (by omega) (by omega)
        have v2 := book_get hv hb (nearTo v book j).1.toNat (by omega)
        obtain ⟨K1, e1⟩ := Distance_ev hv (book_get hv hb j hj)
        obtain ⟨K2, e2⟩ := Distance_ev hv v2
        refine ⟨K + K1 + K2 + 1, fun k hk => ?_⟩
        obtain ⟨m, rfl⟩ : ∃ m, k = m + 1 := ⟨k - 1, by omega⟩
        have ih := ih m (by omega)
        have e1 := e1 m (by omega)
        have e2 := e2 m (by omega)
        dsimp only at ih e1 e2 ⊢
        rw [if_neg (by omega)] at ih
        rw [if_neg h0]
        simp only [earshotref03_Nearest.l0]
        have hi : (nearTo v book j).1 = (((nearTo v book j).1.toNat : Nat) : Int) := by omega
        rw [if_pos (by omega), if_pos (by omega), rd2_nat, e1, Option.bind_some, if_pos (by omega), if_pos (by omega), hi, rd2_nat, e2, Option.bind_some, ← hi, w64 (n := (j : Int) + 1) (by omega) (by omega)]
        simp only [nearTo] at ih
        rw [hok.2.2] at ih
        by_cases hlt : dst v (book.getD j []) < dst v (book.getD (nearTo v book j).1.toNat [])
        · rw [if_pos hlt]; rw [if_pos hlt] at ih; exact ih
        · rw [if_neg hlt]; rw [if_neg hlt] at ih; exact ih) 1 hb1
  obtain ⟨K, e⟩ := e
  refine ⟨K, fun k hk => ?_⟩
  have e := e k hk
  dsimp only at e ⊢
  rw [if_neg (by omega)] at e
  unfold earshotref03_Nearest.f
  have h1 : (nearTo v book 1).1 = 0 := by
    have := nearTo_ok hv hb 1 (by omega) hb1
    omega
  rw [h1] at e
  exact e
theorem near_ok (hb1 : 1 ≤ book.length) : 0 ≤ (near v book).1 ∧ (near v book).1 < (book.length : Int) ∧ (near v book).2 = dst v (book.getD (near v book).1.toNat []) := nearTo_ok hv hb book.length hb1 (Nat.le_refl _)
theorem near_least (i : Nat) (hi : i < book.length) : (near v book).2 ≤ dst v (book.getD i []) := nearTo_least hv hb book.length (Nat.le_refl _) i hi
theorem near_range (hb1 : 1 ≤ book.length) : 0 ≤ (near v book).2 ∧ (near v book).2 ≤ 281474976710656 := by
  have h := near_ok hv hb hb1
  have := dst_bound hv (book_get hv hb (near v book).1.toNat (by omega))
  omega
end
/-- A codebook. -/
def bookOK (b : List (List Int)) : Bool := decide (1 ≤ b.length) && decide (b.length ≤ 256) && vecsOK b
/-- The error of vectors and a codebook. -/
def fitB (v b : List (List Int)) : Bool := vecsOK v && bookOK b && (v.length == 0 || (v.getD 0 []).length == (b.getD 0 []).length)
def fitsOf (v b : List (List Int)) : Int := if v.length > 10000 then 5 else errB (fitB v b)
theorem wrong_zero' (v : List (List Int)) (h : wrongOf v = 0) : v.length ≤ 10000 ∧ vecsOK v = true := by
  unfold wrongOf at h
  split at h
  · omega
  · refine ⟨by omega, ?_⟩
    cases hv : vecsOK v with
    | true => rfl
    | false => rw [hv] at h; cases h
theorem vecsOK_Vec (v : List (List Int)) (h : vecsOK v = true) : ∀ x ∈ v, Vec (v.getD 0 []).length x := by
  intro x hx
  have h1 := List.all_eq_true.1 h x hx
  simp only [vecOne, Bool.and_eq_true, beq_iff_eq, decide_eq_true_eq] at h1
  exact ⟨h1.1.1.1, by omega, by omega, (allIn_iff _ _ _).1 h1.2⟩
end Go.Proofs.YtdlbmbijobcljaaDoor.Pure

namespace Go.Proofs.YtdlbmbijobcljaaDoor.X
open Go.RowKit Go.Proofs.YtdlbmbijobcljaaDoorW.PrintWords Go.Proofs.YtdlbmbijobcljaaDoorW.PrintLast Go.Proofs.YtdlbmbijobcljaaDoorW.PrintMore
attribute [local go_sem] max2_int min2_int max_two min_two max_three min_three max_four min_four   -- for this text's walks alone
set_option linter.unusedVariables false
set_option linter.unusedSimpArgs false
/-! ### feature_Quantize: function 38 -/
def feature_Quantize.l0 : Nat → List (List Int) → List Int → List (List Int) → Int → Int → Option (List Int × Int)
 | 0, _, _, _, _, _ => none
 | k + 1, x1, x7, x18, x19, x20 => if x20 < x19 then (if 0 ≤ x20 then (if x20 < (x18.length : Int) then ((feature_nearest.f k (rd_L2 x18 x20) x1).bind fun bt103 => (if x7.length < 17592186044416 then (feature_Quantize.l0 k x1 (x7 ++ [bt103.1]) x18 x19 (wrap64 (x20 + 1))) else (none))) else (none)) else (none)) else (some (x7, 0))
def feature_Quantize.f (k : Nat) (l0 : List (List Int)) (l1 : List (List Int)) : Option (List Int × Int) := (feature_fits.f k l0 l1).bind fun t101 => (if t101 = 0 then (feature_Quantize.l0 k l1 ([] : List Int) l0 (l0.length : Int) 0) else (some (([] : List Int), t101)))
theorem feature_Quantize.mono_l : ∀ k, (∀ y0 y1 y2 y3 y4, LeO (feature_Quantize.l0 k y0 y1 y2 y3 y4) (feature_Quantize.l0 (k + 1) y0 y1 y2 y3 y4))
 | 0 => fun _ _ _ _ _ r h => by simp [feature_Quantize.l0] at h
 | k + 1 => by
  have ih0 := feature_Quantize.mono_l k
  ·intro y0 y1 y2 y3 y4
   unfold feature_Quantize.l0
   repeat' first
   | (with_reducible exact ih0 _ _ _ _ _)
   | (with_reducible exact feature_fits.mono _ _ _)
   | (with_reducible exact feature_nearest.mono _ _ _)
   | (with_reducible exact LeO.refl _)
   | (with_reducible exact LeO.none _)
   | (with_reducible refine LeO.ite ?_ ?_)
   | (with_reducible refine LeO.bind ?_ (fun _ => ?_))
   | exact ih0 _ _ _ _ _
   | exact feature_fits.mono _ _ _
   | exact feature_nearest.mono _ _ _
   | exact LeO.none _
   | refine LeO.ite ?_ ?_
   | refine LeO.bind ?_ (fun _ => ?_)
theorem feature_Quantize.mono : ∀ a0 a1 k, LeO (feature_Quantize.f k a0 a1) (feature_Quantize.f (k + 1) a0 a1) := by
 intro a0 a1 k
 have ih0 := feature_Quantize.mono_l k
 unfold feature_Quantize.f
 repeat' first
   | (with_reducible exact ih0 _ _ _ _ _)
   | (with_reducible exact feature_fits.mono _ _ _)
   | (with_reducible exact feature_nearest.mono _ _ _)
   | (with_reducible exact LeO.refl _)
   | (with_reducible exact LeO.none _)
   | (with_reducible refine LeO.ite ?_ ?_)
   | (with_reducible refine LeO.bind ?_ (fun _ => ?_))
   | exact ih0 _ _ _ _ _
   | exact feature_fits.mono _ _ _
   | exact feature_nearest.mono _ _ _
   | exact LeO.none _
   | refine LeO.ite ?_ ?_
   | refine LeO.bind ?_ (fun _ => ?_)
set_option maxHeartbeats 8000000 in
set_option maxRecDepth 100000 in
theorem feature_Quantize.calls (k : Nat) (A0 : Option Addr) (c0 : Nat) (l0 : List (List Int)) (A1 : Option Addr) (c1 : Nat) (l1 : List (List Int)) (r1 : List Int) (r2 : Int) (w : World) (hr0 : Kd.C (Kd.slice 3 (Kd.int .i64)) w A0 l0.length l0) (hc0 : l0.length ≤ c0) (hr1 : Kd.C (Kd.slice 3 (Kd.int .i64)) w A1 l1.length l1) (hc1 : l1.length ≤ c1) (h : feature_Quantize.f k l0 l1 = some (r1, r2)) :
  Calls Tryd.prog 38 #[.slice A0 l0.length c0, .slice A1 l1.length c1] w fun e w' => ∃ v0_ : Value, e = .returned (.tuple #[v0_, .int .i64 r2]) ∧ Kd.R (Kd.int .i64) 3 w' w.heap.size (fun _ => True) v0_ r1 ∧ Below w.heap.size w w' := by
 have HR0 := Aside0.mk hr0
 have HC0 := Aside0.mk hc0
 clear hr0 hc0
 have HR1 := Aside0.mk hr1
 have HC1 := Aside0.mk hc1
 clear hr1 hc1
 have HB := Aside0.mk (Below.refl w.heap.size w)
 have H : ((feature_fits.f k l0 l1).bind fun t101 => (if t101 = 0 then (feature_Quantize.l0 k l1 ([] : List Int) l0 (l0.length : Int) 0) else (some (([] : List Int), t101)))) = some (r1, r2) := h
 clear h
 replace H := Option.bind_eq_some_iff.mp H
 obtain ⟨t101, A30, H⟩ := H
 try dsimp only at H
 have A3 := Aside0.mk A30
 clear A30
 by_cases c4 : t101 = 0
 ·rw [if_pos c4] at H
  have c4b0 : (t101 == 0) = true := beq_iff_eq.mpr c4
  have c4b1 : (t101 != 0) = false := bne_eq_false_iff_eq.mpr c4
  clear c4
  have H' := Aside0.mk H
  clear H
  go_enter Tryd.func38, Tryd.ntmps38
  go_wp2_with (first | ((with_reducible refine gate_callee (f := 100) rfl ?_); refine goesL_ (some 14) rfl rfl Tryd.func100 (by kernel_rfl) rfl #[.slice A0 l0.length c0, .slice A1 l1.length c1] rfl tL ?_; (with_reducible refine (feature_fits.calls k _ _ l0 _ _ l1 t101 _ ?side1 ?side2 ?side3 ?side4 A3.out).mono ?_); (case side1 => exact tC HR0.out); (case side2 => exact HC0.out); (case side3 => exact tC HR1.out); (case side4 => exact HC1.out); rintro e w5 ⟨rfl, hb⟩; refine ⟨_, rfl, ?_⟩; replace HB := Aside0.mk (below_step tB hb); (try clear hb); (try clear hb2); (try clear hk); (try clear hi)))
  go_loopg [7, 20] k (fun kq v7 v20 w' => ∃ (x7_1 : List Int) (x20_1 : Int), v20 = .int .i64 x20_1 ∧ Aside0 (feature_Quantize.l0 kq l1 x7_1 l0 (l0.length : Int) x20_1 = some (r1, r2)) ∧ Aside0 (kq ≤ k) ∧ Aside0 (Kd.R (Kd.int .i64) 3 w' w.heap.size (fun _ => True) v7 x7_1) ∧ Aside0 (Below w.heap.size w w'))
  case atStart => exact ⟨(([] : List Int)), (0), (by first | rfl | (simp; done) | (simp only [i64_w]; done) | (simp [*]; done)), H', ⟨Nat.le_refl _⟩, ⟨by first | exact Kd.R_nil _ _ _ _ _ | exact Kd.N_nil _ _ _ _ _ | exact Kd.V_nil _ _ _ _ _ | exact Kd.Q_nil _ _ _ _ _ | exact Kd.S_nil _ _ _ _ _⟩, ⟨tB⟩⟩
  case round =>
   clear H'
   try clear c1
   try clear p2
   try clear c3
   try clear c4
   try clear c4b0
   try clear c4b1
   obtain ⟨x7_1, x20_1, rfl, HA, HK1, HO_7, HB⟩ := hrel
   cases gk with
   | zero => exact absurd HA.out (by simp [feature_Quantize.l0])
   | succ k1 =>
    have H := HA.out
    clear HA
    simp only [feature_Quantize.l0] at H
    by_cases c6 : x20_1 < (l0.length : Int)
    ·rw [if_pos c6] at H
     have c6b0 := decide_eq_true c6
     clear c6
     by_cases c7 : 0 ≤ x20_1
     ·rw [if_pos c7] at H
      have c7b0 := decide_eq_true c7
      clear c7
      by_cases c8 : x20_1 < (l0.length : Int)
      ·rw [if_pos c8] at H
       have c8b0 := decide_eq_true c8
       clear c8
       replace H := Option.bind_eq_some_iff.mp H
       obtain ⟨⟨t103, t104⟩, A90, H⟩ := H
       try dsimp only at H
       have A9 := Aside0.mk A90
       clear A90
       by_cases c10 : x7_1.length < 17592186044416
       ·rw [if_pos c10] at H
        have LMc10 := Aside0.mk c10
        clear c10
        obtain ⟨y105, hy105⟩ : ∃ y_ : List Int, y_ = (x7_1 ++ [t103]) := ⟨_, rfl⟩
        replace H : (feature_Quantize.l0 k1 l1 y105 l0 (l0.length : Int) (wrap64 (x20_1 + 1))) = some (r1, r2) := by first | (rw [hy105]; with_reducible exact H) | (have H2_ := (Option.bind_some _ _).symm.trans H; rw [hy105]; with_reducible exact H2_) | (have H2_ := (Option.bind_some _ _).symm.trans H; with_reducible exact H2_) | with_reducible exact H | (rw [hy105]; exact H) | exact H
        have Ny105 := Aside0.mk hy105
        clear hy105
        have H' := Aside0.mk H
        clear H
        have p102 : 0 ≤ (x20_1 : Int) := of_decide_eq_true tA
        have q102 : x20_1 < (l0.length : Int) := of_decide_eq_true tA
        obtain ⟨ad102, A102_0, c102_0, e102, hx102_0, hl102_0, hi102_0⟩ := at_L2 HR0.out x20_1 p102 q102
        cases e102
        replace hx102_0 := (HB.out.cell (World.block_lt_of_cell? w _ hx102_0)).trans hx102_0
        have HR102_0 := Aside0.mk hi102_0
        have HC102_0 := Aside0.mk hl102_0
        clear hi102_0 hl102_0
        replace p102 := eq_true p102
        replace q102 := eq_true q102
        go_wp2_with (first | ((with_reducible refine gate_callee (f := 101) rfl ?_); refine goesL_ (some 27) rfl rfl Tryd.func101 (by kernel_rfl) rfl #[.slice A102_0 (rd_L2 l0 x20_1).length c102_0, .slice A1 l1.length c1] rfl tL ?_; (with_reducible refine (feature_nearest.calls k1 _ _ (rd_L2 l0 x20_1) _ _ l1 t103 t104 _ ?side1 ?side2 ?side3 ?side4 A9.out).mono ?_); (case side1 => exact tC (Kd.C_below HR102_0.out HB.out)); (case side2 => exact HC102_0.out); (case side3 => exact tC (Kd.C_below HR1.out HB.out)); (case side4 => exact HC1.out); rintro e w' ⟨rfl, ⟨nd, rfl⟩⟩; refine ⟨_, rfl, ?_⟩) | ((with_reducible refine gate_builtin (b := .append) (xs := #[.tmp 30, .tmp 32]) rfl ?_); at_builtin; refine Kd.R_append (Kd.int .i64) (w0 := w) w.heap.size rfl (.tmp 30) (.tmp 32) 22 3 (.int .i64 0) 8 rfl Tryd.underlying22 info3 rfl (by decide) (by omega) u7 x7_1 t103 [.int .i64 t103] (fun _ => True) (fun _ => False) rfl rfl ?aP (fun _ hk => hk.elim) ?aF ?aO ?aB ?aS ?aL ?_; (case aP => exact rfl); (case aB => exact tB); (case aF => exact (fun _ _ => trivial)); (case aO => exact (tR HO_7.out)); (case aS => exact (below_size tB)); (case aL => have := LMc10.out; omega); intro v106 w11 ho hb hg hat; rw [← Ny105.out] at ho; have n0_ := Aside0.mk (hb); have n1_ := Aside0.mk (ho); clear HB; clear HO_7; have HB := n0_; have HO107 := n1_; clear n0_ n1_; clear ho hb hg hat))
        go_roundg k1
        case measure => have := HK1.out; omega
        case rel => exact ⟨(y105), (wrap64 (x20_1 + 1)), (by first | rfl | (simp; done) | (simp only [i64_w]; done) | (simp [*]; done)), H', ⟨by have := HK1.out; omega⟩, ⟨tR HO107.out⟩, ⟨tB⟩⟩
       ·rw [if_neg c10] at H
        exact absurd H (by simp)
      ·rw [if_neg c8] at H
       exact absurd H (by simp)
     ·rw [if_neg c7] at H
      exact absurd H (by simp)
    ·rw [if_neg c6] at H
     have c6b0 := decide_eq_false c6
     clear c6
     simp only [Option.some.injEq, Prod.mk.injEq] at H
     obtain ⟨rfl, rfl⟩ := H
     go_wp2
     go_ret2
     exact ⟨_, by first | rfl | (simp [errW_none, errW_some] <;> rfl) | (simp [*, errW_none, errW_some] <;> rfl), tR HO_7.out, tB⟩
 ·rw [if_neg c4] at H
  have c4b0 : (t101 == 0) = false := beq_eq_false_iff_ne.mpr c4
  have c4b1 : (t101 != 0) = true := bne_iff_ne.mpr c4
  simp only [Option.some.injEq, Prod.mk.injEq] at H
  obtain ⟨rfl, rfl⟩ := H
  go_enter Tryd.func38, Tryd.ntmps38
  go_wp2_with (first | ((with_reducible refine gate_callee (f := 100) rfl ?_); refine goesL_ (some 14) rfl rfl Tryd.func100 (by kernel_rfl) rfl #[.slice A0 l0.length c0, .slice A1 l1.length c1] rfl tL ?_; (with_reducible refine (feature_fits.calls k _ _ l0 _ _ l1 t101 _ ?side1 ?side2 ?side3 ?side4 A3.out).mono ?_); (case side1 => exact tC HR0.out); (case side2 => exact HC0.out); (case side3 => exact tC HR1.out); (case side4 => exact HC1.out); rintro e w12 ⟨rfl, hb⟩; refine ⟨_, rfl, ?_⟩; replace HB := Aside0.mk (below_step tB hb); (try clear hb); (try clear hb2); (try clear hk); (try clear hi)))
  go_ret2
  exact ⟨_, by first | rfl | (simp [errW_none, errW_some] <;> rfl) | (simp [*, errW_none, errW_some] <;> rfl), by first | exact Kd.R_nil _ _ _ _ _ | exact Kd.N_nil _ _ _ _ _ | exact Kd.V_nil _ _ _ _ _ | exact Kd.Q_nil _ _ _ _ _ | exact Kd.S_nil _ _ _ _ _, tB⟩

/-! ### feature_Cost: function 62 -/
def feature_Cost.l0 : Nat → List (List Int) → Int → List (List Int) → Int → Int → Option (Int × Int)
 | 0, _, _, _, _, _ => none
 | k + 1, x1, x7, x18, x19, x20 => if x20 < x19 then (if 0 ≤ x20 then (if x20 < (x18.length : Int) then ((feature_nearest.f k (rd_L2 x18 x20) x1).bind fun bt103 => (feature_Cost.l0 k x1 (wrap64 (x7 + bt103.2)) x18 x19 (wrap64 (x20 + 1)))) else (none)) else (none)) else (some (x7, 0))
def feature_Cost.f (k : Nat) (l0 : List (List Int)) (l1 : List (List Int)) : Option (Int × Int) := (feature_fits.f k l0 l1).bind fun t101 => (if t101 = 0 then (feature_Cost.l0 k l1 0 l0 (l0.length : Int) 0) else (some (0, t101)))
theorem feature_Cost.mono_l : ∀ k, (∀ y0 y1 y2 y3 y4, LeO (feature_Cost.l0 k y0 y1 y2 y3 y4) (feature_Cost.l0 (k + 1) y0 y1 y2 y3 y4))
 | 0 => fun _ _ _ _ _ r h => by simp [feature_Cost.l0] at h
 | k + 1 => by
  have ih0 := feature_Cost.mono_l k
  ·intro y0 y1 y2 y3 y4
   unfold feature_Cost.l0
   repeat' first
   | (with_reducible exact ih0 _ _ _ _ _)
   | (with_reducible exact feature_fits.mono _ _ _)
   | (with_reducible exact feature_nearest.mono _ _ _)
   | (with_reducible exact LeO.refl _)
   | (with_reducible exact LeO.none _)
   | (with_reducible refine LeO.ite ?_ ?_)
   | (with_reducible refine LeO.bind ?_ (fun _ => ?_))
   | exact ih0 _ _ _ _ _
   | exact feature_fits.mono _ _ _
   | exact feature_nearest.mono _ _ _
   | exact LeO.none _
   | refine LeO.ite ?_ ?_
   | refine LeO.bind ?_ (fun _ => ?_)
theorem feature_Cost.mono : ∀ a0 a1 k, LeO (feature_Cost.f k a0 a1) (feature_Cost.f (k + 1) a0 a1) := by
 intro a0 a1 k
 have ih0 := feature_Cost.mono_l k
 unfold feature_Cost.f
 repeat' first
   | (with_reducible exact ih0 _ _ _ _ _)
   | (with_reducible exact feature_fits.mono _ _ _)
   | (with_reducible exact feature_nearest.mono _ _ _)
   | (with_reducible exact LeO.refl _)
   | (with_reducible exact LeO.none _)
   | (with_reducible refine LeO.ite ?_ ?_)
   | (with_reducible refine LeO.bind ?_ (fun _ => ?_))
   | exact ih0 _ _ _ _ _
   | exact feature_fits.mono _ _ _
   | exact feature_nearest.mono _ _ _
   | exact LeO.none _
   | refine LeO.ite ?_ ?_
   | refine LeO.bind ?_ (fun _ => ?_)
set_option maxHeartbeats 8000000 in
set_option maxRecDepth 100000 in
theorem feature_Cost.calls (k : Nat) (A0 : Option Addr) (c0 : Nat) (l0 : List (List Int)) (A1 : Option Addr) (c1 : Nat) (l1 : List (List Int)) (r1 : Int) (r2 : Int) (w : World) (hr0 : Kd.C (Kd.slice 3 (Kd.int .i64)) w A0 l0.length l0) (hc0 : l0.length ≤ c0) (hr1 : Kd.C (Kd.slice 3 (Kd.int .i64)) w A1 l1.length l1) (hc1 : l1.length ≤ c1) (h : feature_Cost.f k l0 l1 = some (r1, r2)) :
  Calls Tryd.prog 62 #[.slice A0 l0.length c0, .slice A1 l1.length c1] w fun e w' => e = .returned (.tuple #[.int .i64 r1, .int .i64 r2]) ∧ Below w.heap.size w w' := by
 have HR0 := Aside0.mk hr0
 have HC0 := Aside0.mk hc0
 clear hr0 hc0
 have HR1 := Aside0.mk hr1
 have HC1 := Aside0.mk hc1
 clear hr1 hc1
 have HB := Aside0.mk (Below.refl w.heap.size w)
 have H : ((feature_fits.f k l0 l1).bind fun t101 => (if t101 = 0 then (feature_Cost.l0 k l1 0 l0 (l0.length : Int) 0) else (some (0, t101)))) = some (r1, r2) := h
 clear h
 replace H := Option.bind_eq_some_iff.mp H
 obtain ⟨t101, A30, H⟩ := H
 try dsimp only at H
 have A3 := Aside0.mk A30
 clear A30
 by_cases c4 : t101 = 0
 ·rw [if_pos c4] at H
  have c4b0 : (t101 == 0) = true := beq_iff_eq.mpr c4
  have c4b1 : (t101 != 0) = false := bne_eq_false_iff_eq.mpr c4
  clear c4
  have H' := Aside0.mk H
  clear H
  go_enter Tryd.func62, Tryd.ntmps62
  go_wp2_with (first | ((with_reducible refine gate_callee (f := 100) rfl ?_); refine goesL_ (some 14) rfl rfl Tryd.func100 (by kernel_rfl) rfl #[.slice A0 l0.length c0, .slice A1 l1.length c1] rfl tL ?_; (with_reducible refine (feature_fits.calls k _ _ l0 _ _ l1 t101 _ ?side1 ?side2 ?side3 ?side4 A3.out).mono ?_); (case side1 => exact tC HR0.out); (case side2 => exact HC0.out); (case side3 => exact tC HR1.out); (case side4 => exact HC1.out); rintro e w5 ⟨rfl, hb⟩; refine ⟨_, rfl, ?_⟩; replace HB := Aside0.mk (below_step tB hb); (try clear hb); (try clear hb2); (try clear hk); (try clear hi)))
  go_loopg [7, 20] k (fun kq v7 v20 w' => ∃ (x7_1 : Int) (x20_1 : Int), v7 = .int .i64 x7_1 ∧ v20 = .int .i64 x20_1 ∧ Aside0 (feature_Cost.l0 kq l1 x7_1 l0 (l0.length : Int) x20_1 = some (r1, r2)) ∧ Aside0 (kq ≤ k) ∧ Aside0 (Below w.heap.size w w'))
  case atStart => exact ⟨(0), (0), (by first | rfl | (simp; done) | (simp only [i64_w]; done) | (simp [*]; done)), (by first | rfl | (simp; done) | (simp only [i64_w]; done) | (simp [*]; done)), H', ⟨Nat.le_refl _⟩, ⟨tB⟩⟩
  case round =>
   clear H'
   try clear c1
   try clear p2
   try clear c4
   try clear c4b0
   try clear c4b1
   obtain ⟨x7_1, x20_1, rfl, rfl, HA, HK1, HB⟩ := hrel
   cases gk with
   | zero => exact absurd HA.out (by simp [feature_Cost.l0])
   | succ k1 =>
    have H := HA.out
    clear HA
    simp only [feature_Cost.l0] at H
    by_cases c6 : x20_1 < (l0.length : Int)
    ·rw [if_pos c6] at H
     have c6b0 := decide_eq_true c6
     clear c6
     by_cases c7 : 0 ≤ x20_1
     ·rw [if_pos c7] at H
      have c7b0 := decide_eq_true c7
      clear c7
      by_cases c8 : x20_1 < (l0.length : Int)
      ·rw [if_pos c8] at H
       have c8b0 := decide_eq_true c8
       clear c8
       replace H := Option.bind_eq_some_iff.mp H
       obtain ⟨⟨t103, t104⟩, A90, H⟩ := H
       try dsimp only at H
       have A9 := Aside0.mk A90
       clear A90
       have H' := Aside0.mk H
       clear H
       have p102 : 0 ≤ (x20_1 : Int) := of_decide_eq_true tA
       have q102 : x20_1 < (l0.length : Int) := of_decide_eq_true tA
       obtain ⟨ad102, A102_0, c102_0, e102, hx102_0, hl102_0, hi102_0⟩ := at_L2 HR0.out x20_1 p102 q102
       cases e102
       replace hx102_0 := (HB.out.cell (World.block_lt_of_cell? w _ hx102_0)).trans hx102_0
       have HR102_0 := Aside0.mk hi102_0
       have HC102_0 := Aside0.mk hl102_0
       clear hi102_0 hl102_0
       replace p102 := eq_true p102
       replace q102 := eq_true q102
       go_wp2_with (first | ((with_reducible refine gate_callee (f := 101) rfl ?_); refine goesL_ (some 27) rfl rfl Tryd.func101 (by kernel_rfl) rfl #[.slice A102_0 (rd_L2 l0 x20_1).length c102_0, .slice A1 l1.length c1] rfl tL ?_; (with_reducible refine (feature_nearest.calls k1 _ _ (rd_L2 l0 x20_1) _ _ l1 t103 t104 _ ?side1 ?side2 ?side3 ?side4 A9.out).mono ?_); (case side1 => exact tC (Kd.C_below HR102_0.out HB.out)); (case side2 => exact HC102_0.out); (case side3 => exact tC (Kd.C_below HR1.out HB.out)); (case side4 => exact HC1.out); rintro e w' ⟨rfl, ⟨nd, rfl⟩⟩; refine ⟨_, rfl, ?_⟩))
       go_roundg k1
       case measure => have := HK1.out; omega
       case rel => exact ⟨(wrap64 (x7_1 + t104)), (wrap64 (x20_1 + 1)), (by first | rfl | (simp; done) | (simp only [i64_w]; done) | (simp [*]; done)), (by first | rfl | (simp; done) | (simp only [i64_w]; done) | (simp [*]; done)), H', ⟨by have := HK1.out; omega⟩, ⟨tB⟩⟩
      ·rw [if_neg c8] at H
       exact absurd H (by simp)
     ·rw [if_neg c7] at H
      exact absurd H (by simp)
    ·rw [if_neg c6] at H
     have c6b0 := decide_eq_false c6
     clear c6
     simp only [Option.some.injEq, Prod.mk.injEq] at H
     obtain ⟨rfl, rfl⟩ := H
     go_wp2
     go_ret2
     exact ⟨by first | rfl | (simp [errW_none, errW_some] <;> rfl) | (simp [*, errW_none, errW_some] <;> rfl), tB⟩
 ·rw [if_neg c4] at H
  have c4b0 : (t101 == 0) = false := beq_eq_false_iff_ne.mpr c4
  have c4b1 : (t101 != 0) = true := bne_iff_ne.mpr c4
  simp only [Option.some.injEq, Prod.mk.injEq] at H
  obtain ⟨rfl, rfl⟩ := H
  go_enter Tryd.func62, Tryd.ntmps62
  go_wp2_with (first | ((with_reducible refine gate_callee (f := 100) rfl ?_); refine goesL_ (some 14) rfl rfl Tryd.func100 (by kernel_rfl) rfl #[.slice A0 l0.length c0, .slice A1 l1.length c1] rfl tL ?_; (with_reducible refine (feature_fits.calls k _ _ l0 _ _ l1 t101 _ ?side1 ?side2 ?side3 ?side4 A3.out).mono ?_); (case side1 => exact tC HR0.out); (case side2 => exact HC0.out); (case side3 => exact tC HR1.out); (case side4 => exact HC1.out); rintro e w10 ⟨rfl, hb⟩; refine ⟨_, rfl, ?_⟩; replace HB := Aside0.mk (below_step tB hb); (try clear hb); (try clear hb2); (try clear hk); (try clear hi)))
  go_ret2
  exact ⟨by first | rfl | (simp [errW_none, errW_some] <;> rfl) | (simp [*, errW_none, errW_some] <;> rfl), tB⟩

/-! ### earshotref03_Quantize: function 64 -/
def earshotref03_Quantize.l0 : Nat → List (List Int) → List (List Int) → List Int → Int → Option (List Int)
 | 0, _, _, _, _ => none
 | k + 1, x0, x1, x5, x6 => if x6 < (x0.length : Int) then (if 0 ≤ x6 then ((earshotref03_Nearest.f k (rd_L2 x0 x6) x1).bind fun t102 => (if x5.length < 17592186044416 then (earshotref03_Quantize.l0 k x0 x1 (x5 ++ [t102]) (wrap64 (x6 + 1))) else (none))) else (none)) else (some x5)
def earshotref03_Quantize.f (k : Nat) (l0 : List (List Int)) (l1 : List (List Int)) : Option (List Int) := earshotref03_Quantize.l0 k l0 l1 ([] : List Int) 0
theorem earshotref03_Quantize.mono_l : ∀ k, (∀ y0 y1 y2 y3, LeO (earshotref03_Quantize.l0 k y0 y1 y2 y3) (earshotref03_Quantize.l0 (k + 1) y0 y1 y2 y3))
 | 0 => fun _ _ _ _ r h => by simp [earshotref03_Quantize.l0] at h
 | k + 1 => by
  have ih0 := earshotref03_Quantize.mono_l k
  ·intro y0 y1 y2 y3
   unfold earshotref03_Quantize.l0
   repeat' first
   | (with_reducible exact ih0 _ _ _ _)
   | (with_reducible exact earshotref03_Nearest.mono _ _ _)
   | (with_reducible exact LeO.refl _)
   | (with_reducible exact LeO.none _)
   | (with_reducible refine LeO.ite ?_ ?_)
   | (with_reducible refine LeO.bind ?_ (fun _ => ?_))
   | exact ih0 _ _ _ _
   | exact earshotref03_Nearest.mono _ _ _
   | exact LeO.none _
   | refine LeO.ite ?_ ?_
   | refine LeO.bind ?_ (fun _ => ?_)
theorem earshotref03_Quantize.mono : ∀ a0 a1 k, LeO (earshotref03_Quantize.f k a0 a1) (earshotref03_Quantize.f (k + 1) a0 a1) := by
 intro a0 a1 k
 have ih0 := earshotref03_Quantize.mono_l k
 unfold earshotref03_Quantize.f
 repeat' first
   | (with_reducible exact ih0 _ _ _ _)
   | (with_reducible exact earshotref03_Nearest.mono _ _ _)
   | (with_reducible exact LeO.refl _)
   | (with_reducible exact LeO.none _)
   | (with_reducible refine LeO.ite ?_ ?_)
   | (with_reducible refine LeO.bind ?_ (fun _ => ?_))
   | exact ih0 _ _ _ _
   | exact earshotref03_Nearest.mono _ _ _
   | exact LeO.none _
   | refine LeO.ite ?_ ?_
   | refine LeO.bind ?_ (fun _ => ?_)
set_option maxHeartbeats 8000000 in
set_option maxRecDepth 100000 in
theorem earshotref03_Quantize.calls (k : Nat) (A0 : Option Addr) (c0 : Nat) (l0 : List (List Int)) (A1 : Option Addr) (c1 : Nat) (l1 : List (List Int)) (r : List Int) (w : World) (hr0 : Kd.C (Kd.slice 3 (Kd.int .i64)) w A0 l0.length l0) (hc0 : l0.length ≤ c0) (hr1 : Kd.C (Kd.slice 3 (Kd.int .i64)) w A1 l1.length l1) (hc1 : l1.length ≤ c1) (h : earshotref03_Quantize.f k l0 l1 = some r) :
  Calls Tryd.prog 64 #[.slice A0 l0.length c0, .slice A1 l1.length c1] w fun e w' => ∃ v0_ : Value, e = .returned (v0_) ∧ Kd.R (Kd.int .i64) 3 w' w.heap.size (fun _ => True) v0_ r ∧ Below w.heap.size w w' := by
 have HR0 := Aside0.mk hr0
 have HC0 := Aside0.mk hc0
 clear hr0 hc0
 have HR1 := Aside0.mk hr1
 have HC1 := Aside0.mk hc1
 clear hr1 hc1
 have HB := Aside0.mk (Below.refl w.heap.size w)
 have H : (earshotref03_Quantize.l0 k l0 l1 ([] : List Int) 0) = some r := h
 clear h
 have H' := Aside0.mk H
 clear H
 go_enter Tryd.func64, Tryd.ntmps64
 go_wp2
 go_loopg [5, 6] k (fun kq v5 v6 w' => ∃ (x5_1 : List Int) (x6_1 : Int), v6 = .int .i64 x6_1 ∧ Aside0 (earshotref03_Quantize.l0 kq l0 l1 x5_1 x6_1 = some r) ∧ Aside0 (kq ≤ k) ∧ Aside0 (Kd.R (Kd.int .i64) 3 w' w.heap.size (fun _ => True) v5 x5_1) ∧ Aside0 (Below w.heap.size w w'))
 case atStart => exact ⟨(([] : List Int)), (0), (by first | rfl | (simp; done) | (simp only [i64_w]; done) | (simp [*]; done)), H', ⟨Nat.le_refl _⟩, ⟨by first | exact Kd.R_nil _ _ _ _ _ | exact Kd.N_nil _ _ _ _ _ | exact Kd.V_nil _ _ _ _ _ | exact Kd.Q_nil _ _ _ _ _ | exact Kd.S_nil _ _ _ _ _⟩, ⟨tB⟩⟩
 case round =>
  clear H'
  try clear c1
  try clear p2
  obtain ⟨x5_1, x6_1, rfl, HA, HK1, HO_5, HB⟩ := hrel
  cases gk with
  | zero => exact absurd HA.out (by simp [earshotref03_Quantize.l0])
  | succ k1 =>
   have H := HA.out
   clear HA
   simp only [earshotref03_Quantize.l0] at H
   by_cases c3 : x6_1 < (l0.length : Int)
   ·rw [if_pos c3] at H
    have c3b0 := decide_eq_true c3
    clear c3
    by_cases c4 : 0 ≤ x6_1
    ·rw [if_pos c4] at H
     have c4b0 := decide_eq_true c4
     clear c4
     replace H := Option.bind_eq_some_iff.mp H
     obtain ⟨t102, A50, H⟩ := H
     try dsimp only at H
     have A5 := Aside0.mk A50
     clear A50
     by_cases c6 : x5_1.length < 17592186044416
     ·rw [if_pos c6] at H
      have LMc6 := Aside0.mk c6
      clear c6
      obtain ⟨y103, hy103⟩ : ∃ y_ : List Int, y_ = (x5_1 ++ [t102]) := ⟨_, rfl⟩
      replace H : (earshotref03_Quantize.l0 k1 l0 l1 y103 (wrap64 (x6_1 + 1))) = some r := by first | (rw [hy103]; with_reducible exact H) | (have H2_ := (Option.bind_some _ _).symm.trans H; rw [hy103]; with_reducible exact H2_) | (have H2_ := (Option.bind_some _ _).symm.trans H; with_reducible exact H2_) | with_reducible exact H | (rw [hy103]; exact H) | exact H
      have Ny103 := Aside0.mk hy103
      clear hy103
      have H' := Aside0.mk H
      clear H
      have p101 : 0 ≤ (x6_1 : Int) := of_decide_eq_true tA
      have q101 : x6_1 < (l0.length : Int) := of_decide_eq_true tA
      obtain ⟨ad101, A101_0, c101_0, e101, hx101_0, hl101_0, hi101_0⟩ := at_L2 HR0.out x6_1 p101 q101
      cases e101
      replace hx101_0 := (HB.out.cell (World.block_lt_of_cell? w _ hx101_0)).trans hx101_0
      have HR101_0 := Aside0.mk hi101_0
      have HC101_0 := Aside0.mk hl101_0
      clear hi101_0 hl101_0
      replace p101 := eq_true p101
      replace q101 := eq_true q101
      go_wp2_with (first | ((with_reducible refine gate_callee (f := 72) rfl ?_); refine goesL_ (some 19) rfl rfl Tryd.func72 (by kernel_rfl) rfl #[.slice A101_0 (rd_L2 l0 x6_1).length c101_0, .slice A1 l1.length c1] rfl tL ?_; (with_reducible refine (earshotref03_Nearest.calls k1 _ _ (rd_L2 l0 x6_1) _ _ l1 t102 _ ?side1 ?side2 ?side3 ?side4 A5.out).mono ?_); (case side1 => exact tC (Kd.C_below HR101_0.out HB.out)); (case side2 => exact HC101_0.out); (case side3 => exact tC (Kd.C_below HR1.out HB.out)); (case side4 => exact HC1.out); rintro e w' ⟨rfl, ⟨nd, rfl⟩⟩; refine ⟨_, rfl, ?_⟩) | ((with_reducible refine gate_builtin (b := .append) (xs := #[.tmp 13, .tmp 20]) rfl ?_); at_builtin; refine Kd.R_append (Kd.int .i64) (w0 := w) w.heap.size rfl (.tmp 13) (.tmp 20) 22 3 (.int .i64 0) 8 rfl Tryd.underlying22 info3 rfl (by decide) (by omega) u5 x5_1 t102 [.int .i64 t102] (fun _ => True) (fun _ => False) rfl rfl ?aP (fun _ hk => hk.elim) ?aF ?aO ?aB ?aS ?aL ?_; (case aP => exact rfl); (case aB => exact tB); (case aF => exact (fun _ _ => trivial)); (case aO => exact (tR HO_5.out)); (case aS => exact (below_size tB)); (case aL => have := LMc6.out; omega); intro v104 w7 ho hb hg hat; rw [← Ny103.out] at ho; have n0_ := Aside0.mk (hb); have n1_ := Aside0.mk (ho); clear HB; clear HO_5; have HB := n0_; have HO105 := n1_; clear n0_ n1_; clear ho hb hg hat))
      go_roundg k1
      case measure => have := HK1.out; omega
      case rel => exact ⟨(y103), (wrap64 (x6_1 + 1)), (by first | rfl | (simp; done) | (simp only [i64_w]; done) | (simp [*]; done)), H', ⟨by have := HK1.out; omega⟩, ⟨tR HO105.out⟩, ⟨tB⟩⟩
     ·rw [if_neg c6] at H
      exact absurd H (by simp)
    ·rw [if_neg c4] at H
     exact absurd H (by simp)
   ·rw [if_neg c3] at H
    have c3b0 := decide_eq_false c3
    clear c3
    obtain rfl := Option.some.inj H
    go_wp2
    go_ret
    exact ⟨_, by first | rfl | (simp [errW_none, errW_some] <;> rfl) | (simp [*, errW_none, errW_some] <;> rfl), tR HO_5.out, tB⟩

/-! ### earshotref03_Cost: function 65 -/
def earshotref03_Cost.l0 : Nat → List (List Int) → List (List Int) → Int → Int → Option (Int)
 | 0, _, _, _, _ => none
 | k + 1, x0, x1, x5, x6 => if x6 < (x0.length : Int) then (if 0 ≤ x6 then ((earshotref03_Nearest.f k (rd_L2 x0 x6) x1).bind fun t103 => (if 0 ≤ t103 then (if t103 < (x1.length : Int) then ((earshotref03_Distance.f k (rd_L2 x0 x6) (rd_L2 x1 t103)).bind fun t105 => (earshotref03_Cost.l0 k x0 x1 (wrap64 (x5 + t105)) (wrap64 (x6 + 1)))) else (none)) else (none))) else (none)) else (some x5)
def earshotref03_Cost.f (k : Nat) (l0 : List (List Int)) (l1 : List (List Int)) : Option (Int) := earshotref03_Cost.l0 k l0 l1 0 0
theorem earshotref03_Cost.mono_l : ∀ k, (∀ y0 y1 y2 y3, LeO (earshotref03_Cost.l0 k y0 y1 y2 y3) (earshotref03_Cost.l0 (k + 1) y0 y1 y2 y3))
 | 0 => fun _ _ _ _ r h => by simp [earshotref03_Cost.l0] at h
 | k + 1 => by
  have ih0 := earshotref03_Cost.mono_l k
  ·intro y0 y1 y2 y3
   unfold earshotref03_Cost.l0
   repeat' first
   | (with_reducible exact ih0 _ _ _ _)
   | (with_reducible exact earshotref03_Distance.mono _ _ _)
   | (with_reducible exact earshotref03_Nearest.mono _ _ _)
   | (with_reducible exact LeO.refl _)
   | (with_reducible exact LeO.none _)
   | (with_reducible refine LeO.ite ?_ ?_)
   | (with_reducible refine LeO.bind ?_ (fun _ => ?_))
   | exact ih0 _ _ _ _
   | exact earshotref03_Distance.mono _ _ _
   | exact earshotref03_Nearest.mono _ _ _
   | exact LeO.none _
   | refine LeO.ite ?_ ?_
   | refine LeO.bind ?_ (fun _ => ?_)
theorem earshotref03_Cost.mono : ∀ a0 a1 k, LeO (earshotref03_Cost.f k a0 a1) (earshotref03_Cost.f (k + 1) a0 a1) := by
 intro a0 a1 k
 have ih0 := earshotref03_Cost.mono_l k
 unfold earshotref03_Cost.f
 repeat' first
   | (with_reducible exact ih0 _ _ _ _)
   | (with_reducible exact earshotref03_Distance.mono _ _ _)
   | (with_reducible exact earshotref03_Nearest.mono _ _ _)
   | (with_reducible exact LeO.refl _)
   | (with_reducible exact LeO.none _)
   | (with_reducible refine LeO.ite ?_ ?_)
   | (with_reducible refine LeO.bind ?_ (fun _ => ?_))
   | exact ih0 _ _ _ _
   | exact earshotref03_Distance.mono _ _ _
   | exact earshotref03_Nearest.mono _ _ _
   | exact LeO.none _
   | refine LeO.ite ?_ ?_
   | refine LeO.bind ?_ (fun _ => ?_)
set_option maxHeartbeats 8000000 in
set_option maxRecDepth 100000 in
theorem earshotref03_Cost.calls (k : Nat) (A0 : Option Addr) (c0 : Nat) (l0 : List (List Int)) (A1 : Option Addr) (c1 : Nat) (l1 : List (List Int)) (r : Int) (w : World) (hr0 : Kd.C (Kd.slice 3 (Kd.int .i64)) w A0 l0.length l0) (hc0 : l0.length ≤ c0) (hr1 : Kd.C (Kd.slice 3 (Kd.int .i64)) w A1 l1.length l1) (hc1 : l1.length ≤ c1) (h : earshotref03_Cost.f k l0 l1 = some r) :
  Calls Tryd.prog 65 #[.slice A0 l0.length c0, .slice A1 l1.length c1] w fun e w' => e = .returned (.int .i64 r) ∧ Drawn0 w w' := by
 have HR0 := Aside0.mk hr0
 have HC0 := Aside0.mk hc0
 clear hr0 hc0
 have HR1 := Aside0.mk hr1
 have HC1 := Aside0.mk hc1
 clear hr1 hc1
 have H : (earshotref03_Cost.l0 k l0 l1 0 0) = some r := h
 clear h
 have H' := Aside0.mk H
 clear H
 go_enter Tryd.func65, Tryd.ntmps65
 go_wp2
 repeat (go_quiet (fail); try go_wp2)
 go_loopg [5, 6] k (fun kq v5 v6 w' => ∃ (x5_1 : Int) (x6_1 : Int), v5 = .int .i64 x5_1 ∧ v6 = .int .i64 x6_1 ∧ Aside0 (earshotref03_Cost.l0 kq l0 l1 x5_1 x6_1 = some r) ∧ Aside0 (kq ≤ k) ∧ Drawn0 w w')
 case atStart => exact ⟨(0), (0), (by first | rfl | (simp; done) | (simp only [i64_w]; done) | (simp [*]; done)), (by first | rfl | (simp; done) | (simp only [i64_w]; done) | (simp [*]; done)), H', ⟨Nat.le_refl _⟩, by repeat (first | exact Drawn0.refl _ | apply Drawn0.step)⟩
 case round =>
  clear H'
  try clear c1
  try clear p2
  obtain ⟨x5_1, x6_1, rfl, rfl, HA, HK1, ⟨m1, rfl⟩⟩ := hrel
  cases gk with
  | zero => exact absurd HA.out (by simp [earshotref03_Cost.l0])
  | succ k1 =>
   have H := HA.out
   clear HA
   simp only [earshotref03_Cost.l0] at H
   by_cases c3 : x6_1 < (l0.length : Int)
   ·rw [if_pos c3] at H
    have c3b0 := decide_eq_true c3
    clear c3
    by_cases c4 : 0 ≤ x6_1
    ·rw [if_pos c4] at H
     have c4b0 := decide_eq_true c4
     clear c4
     replace H := Option.bind_eq_some_iff.mp H
     obtain ⟨t103, A50, H⟩ := H
     try dsimp only at H
     have A5 := Aside0.mk A50
     clear A50
     by_cases c6 : 0 ≤ t103
     ·rw [if_pos c6] at H
      have c6b0 := decide_eq_true c6
      clear c6
      by_cases c7 : t103 < (l1.length : Int)
      ·rw [if_pos c7] at H
       have c7b0 := decide_eq_true c7
       clear c7
       replace H := Option.bind_eq_some_iff.mp H
       obtain ⟨t105, A80, H⟩ := H
       try dsimp only at H
       have A8 := Aside0.mk A80
       clear A80
       have H' := Aside0.mk H
       clear H
       have p101 : 0 ≤ (x6_1 : Int) := of_decide_eq_true tA
       have q101 : x6_1 < (l0.length : Int) := of_decide_eq_true tA
       obtain ⟨ad101, A101_0, c101_0, e101, hx101_0, hl101_0, hi101_0⟩ := at_L2 HR0.out x6_1 p101 q101
       cases e101
       have HR101_0 := Aside0.mk hi101_0
       have HC101_0 := Aside0.mk hl101_0
       clear hi101_0 hl101_0
       replace p101 := eq_true p101
       replace q101 := eq_true q101
       have p102 : 0 ≤ (x6_1 : Int) := of_decide_eq_true tA
       have q102 : x6_1 < (l0.length : Int) := of_decide_eq_true tA
       obtain ⟨ad102, A102_0, c102_0, e102, hx102_0, hl102_0, hi102_0⟩ := at_L2 HR0.out x6_1 p102 q102
       obtain rfl : ad101 = ad102 := (by injection e102)
       have HR102_0 := Aside0.mk hi102_0
       have HC102_0 := Aside0.mk hl102_0
       clear hi102_0 hl102_0
       replace p102 := eq_true p102
       replace q102 := eq_true q102
       have ea_ := Option.some.inj (hx101_0.symm.trans hx102_0)
       injection ea_ with ea_ en_ ec_
       subst ea_
       subst ec_
       clear en_
       go_wp2_with (first | (go_at_call 72; (with_reducible refine (earshotref03_Nearest.calls k1 _ _ (rd_L2 l0 x6_1) _ _ l1 t103 _ ?side1 ?side2 ?side3 ?side4 A5.out).mono ?_); (case side1 => exact tC HR102_0.out); (case side2 => exact HC102_0.out); (case side3 => exact tC HR1.out); (case side4 => exact HC1.out); rintro e w' ⟨rfl, ⟨nd, rfl⟩⟩; (try first | exact ⟨rfl, _, World.drewN_drewN _ _ _⟩ | exact ⟨rfl, _, Eq.trans (World.drewN_drewN _ _ _) (congrArg (World.drewN _) (Nat.add_assoc _ _ _))⟩); have p104 : 0 ≤ (t103 : Int) := of_decide_eq_true tA; have q104 : t103 < (l1.length : Int) := of_decide_eq_true tA; obtain ⟨ad104, A104_0, c104_0, e104, hx104_0, hl104_0, hi104_0⟩ := at_L2 HR1.out t103 p104 q104; cases e104; have HR104_0 := Aside0.mk hi104_0; have HC104_0 := Aside0.mk hl104_0; clear hi104_0 hl104_0; replace p104 := eq_true p104; replace q104 := eq_true q104) | (go_at_call 70; (with_reducible refine (earshotref03_Distance.calls k1 _ _ (rd_L2 l0 x6_1) _ _ (rd_L2 l1 t103) t105 _ ?side1 ?side2 ?side3 ?side4 A8.out).mono ?_); (case side1 => exact tC HR101_0.out); (case side2 => exact HC101_0.out); (case side3 => exact tC HR104_0.out); (case side4 => exact HC104_0.out); rintro e w' ⟨rfl, ⟨nd, rfl⟩⟩; (try first | exact ⟨rfl, _, World.drewN_drewN _ _ _⟩ | exact ⟨rfl, _, Eq.trans (World.drewN_drewN _ _ _) (congrArg (World.drewN _) (Nat.add_assoc _ _ _))⟩)))
       repeat (go_quiet (first | (go_at_call 72; (with_reducible refine (earshotref03_Nearest.calls k1 _ _ (rd_L2 l0 x6_1) _ _ l1 t103 _ ?side1 ?side2 ?side3 ?side4 A5.out).mono ?_); (case side1 => exact tC HR102_0.out); (case side2 => exact HC102_0.out); (case side3 => exact tC HR1.out); (case side4 => exact HC1.out); rintro e w' ⟨rfl, ⟨nd, rfl⟩⟩; (try first | exact ⟨rfl, _, World.drewN_drewN _ _ _⟩ | exact ⟨rfl, _, Eq.trans (World.drewN_drewN _ _ _) (congrArg (World.drewN _) (Nat.add_assoc _ _ _))⟩); have p104 : 0 ≤ (t103 : Int) := of_decide_eq_true tA; have q104 : t103 < (l1.length : Int) := of_decide_eq_true tA; obtain ⟨ad104, A104_0, c104_0, e104, hx104_0, hl104_0, hi104_0⟩ := at_L2 HR1.out t103 p104 q104; cases e104; have HR104_0 := Aside0.mk hi104_0; have HC104_0 := Aside0.mk hl104_0; clear hi104_0 hl104_0; replace p104 := eq_true p104; replace q104 := eq_true q104) | (go_at_call 70; (with_reducible refine (earshotref03_Distance.calls k1 _ _ (rd_L2 l0 x6_1) _ _ (rd_L2 l1 t103) t105 _ ?side1 ?side2 ?side3 ?side4 A8.out).mono ?_); (case side1 => exact tC HR101_0.out); (case side2 => exact HC101_0.out); (case side3 => exact tC HR104_0.out); (case side4 => exact HC104_0.out); rintro e w' ⟨rfl, ⟨nd, rfl⟩⟩; (try first | exact ⟨rfl, _, World.drewN_drewN _ _ _⟩ | exact ⟨rfl, _, Eq.trans (World.drewN_drewN _ _ _) (congrArg (World.drewN _) (Nat.add_assoc _ _ _))⟩))); try go_wp2_with (first | (go_at_call 72; (with_reducible refine (earshotref03_Nearest.calls k1 _ _ (rd_L2 l0 x6_1) _ _ l1 t103 _ ?side1 ?side2 ?side3 ?side4 A5.out).mono ?_); (case side1 => exact tC HR102_0.out); (case side2 => exact HC102_0.out); (case side3 => exact tC HR1.out); (case side4 => exact HC1.out); rintro e w' ⟨rfl, ⟨nd, rfl⟩⟩; (try first | exact ⟨rfl, _, World.drewN_drewN _ _ _⟩ | exact ⟨rfl, _, Eq.trans (World.drewN_drewN _ _ _) (congrArg (World.drewN _) (Nat.add_assoc _ _ _))⟩); have p104 : 0 ≤ (t103 : Int) := of_decide_eq_true tA; have q104 : t103 < (l1.length : Int) := of_decide_eq_true tA; obtain ⟨ad104, A104_0, c104_0, e104, hx104_0, hl104_0, hi104_0⟩ := at_L2 HR1.out t103 p104 q104; cases e104; have HR104_0 := Aside0.mk hi104_0; have HC104_0 := Aside0.mk hl104_0; clear hi104_0 hl104_0; replace p104 := eq_true p104; replace q104 := eq_true q104) | (go_at_call 70; (with_reducible refine (earshotref03_Distance.calls k1 _ _ (rd_L2 l0 x6_1) _ _ (rd_L2 l1 t103) t105 _ ?side1 ?side2 ?side3 ?side4 A8.out).mono ?_); (case side1 => exact tC HR101_0.out); (case side2 => exact HC101_0.out); (case side3 => exact tC HR104_0.out); (case side4 => exact HC104_0.out); rintro e w' ⟨rfl, ⟨nd, rfl⟩⟩; (try first | exact ⟨rfl, _, World.drewN_drewN _ _ _⟩ | exact ⟨rfl, _, Eq.trans (World.drewN_drewN _ _ _) (congrArg (World.drewN _) (Nat.add_assoc _ _ _))⟩))))
       go_roundg k1
       case measure => have := HK1.out; omega
       case rel => exact ⟨(wrap64 (x5_1 + t105)), (wrap64 (x6_1 + 1)), (by first | rfl | (simp; done) | (simp only [i64_w]; done) | (simp [*]; done)), (by first | rfl | (simp; done) | (simp only [i64_w]; done) | (simp [*]; done)), H', ⟨by have := HK1.out; omega⟩, by repeat (first | exact Drawn0.refl _ | apply Drawn0.step)⟩
      ·rw [if_neg c7] at H
       exact absurd H (by simp)
     ·rw [if_neg c6] at H
      exact absurd H (by simp)
    ·rw [if_neg c4] at H
     exact absurd H (by simp)
   ·rw [if_neg c3] at H
    have c3b0 := decide_eq_false c3
    clear c3
    obtain rfl := Option.some.inj H
    go_wp2
    repeat (go_quiet (fail); try go_wp2)
    go_ret
    exact ⟨by first | rfl | (simp; done) | (simp [*]; done), by repeat (first | exact Drawn0.refl _ | apply Drawn0.step)⟩

end Go.Proofs.YtdlbmbijobcljaaDoor.X

namespace Go.Proofs.YtdlbmbijobcljaaDoor.Pure
open Go.RowKit Go.Proofs.YtdlbmbijobcljaaDoor.X Go.Proofs.YtdlbmbijobcljaaDoorW.PrintWords Go.Proofs.YtdlbmbijobcljaaDoorW.PrintLast Go.Proofs.YtdlbmbijobcljaaDoorW.PrintMore
set_option linter.unusedVariables false
set_option linter.unusedSimpArgs false
set_option linter.unusedSectionVars false
theorem errB_zero (b : Bool) : errB b = 0 ↔ b = true := by cases b <;> simp [errB]
theorem wrong_errB (v : List (List Int)) (h : v.length ≤ 10000) : wrongOf v = errB (vecsOK v) := by unfold wrongOf; rw [if_neg (by omega)]
theorem codebook_ev (b : List (List Int)) : Ev (fun k => feature_codebook.f k b) (bookOK b) := by
  by_cases h1 : 1 ≤ b.length
  · by_cases h2 : b.length ≤ 256
    · obtain ⟨K, e⟩ := vectors_ev b (by omega)
      rw [wrong_errB b (by omega)] at e
      refine ⟨K, fun k hk => ?_⟩
      have e := e k hk
      dsimp only at e ⊢
      unfold feature_codebook.f bookOK
      rw [if_pos (by omega), if_pos (by omega), e, decide_eq_true h1, decide_eq_true h2]
      cases vecsOK b <;> rfl
    · refine ⟨0, fun k _ => ?_⟩
      dsimp only
      unfold feature_codebook.f bookOK
      rw [if_pos (by omega), if_neg (by omega), decide_eq_false h2]
      simp
  · refine ⟨0, fun k _ => ?_⟩
    dsimp only
    unfold feature_codebook.f bookOK
    rw [if_neg (by omega), decide_eq_false h1]
    simp
theorem Book_ev (b : List (List Int)) : Ev (fun k => earshotref03_Book.f k b) (bookOK b) := by
  by_cases h1 : 1 ≤ b.length
  · by_cases h2 : b.length ≤ 256
    · obtain ⟨K, e⟩ := Vectors_ev b (by omega)
      refine ⟨K, fun k hk => ?_⟩
      have e := e k hk
      dsimp only at e ⊢
      unfold earshotref03_Book.f bookOK
      rw [if_pos (by omega), if_pos (by omega), e, decide_eq_true h1, decide_eq_true h2]
      simp
    · refine ⟨0, fun k _ => ?_⟩
      dsimp only
      unfold earshotref03_Book.f bookOK
      rw [if_pos (by omega), if_neg (by omega), decide_eq_false h2]
      simp
  · refine ⟨0, fun k _ => ?_⟩
    dsimp only
    unfold earshotref03_Book.f bookOK
    rw [if_neg (by omega), decide_eq_false h1]
    simp
theorem bookOK_len (b : List (List Int)) (h : bookOK b = true) : 1 ≤ b.length ∧ b.length ≤ 256 ∧ vecsOK b = true := by
  simp only [bookOK, Bool.and_eq_true, decide_eq_true_eq] at h
  exact ⟨h.1.1, h.1.2, h.2⟩
theorem heads (v b : List (List Int)) (hb : bookOK b = true) (x y z : Option Int) (hx : (v.length = 0 → z = x) ∧ (v.length ≠ 0 → (v.getD 0 []).length = (b.getD 0 []).length → z = x) ∧ (v.length ≠ 0 → (v.getD 0 []).length ≠ (b.getD 0 []).length → z = y)) :
    (if (v.length : Int) > 0 then (if 0 < (v.length : Int) then (if 0 < (b.length : Int) then (if ((rd_L2 v 0).length : Int) = ((rd_L2 b 0).length : Int) then x else y) else none) else none) else x) = z := by
  have h1 := bookOK_len b hb
  rw [rd2_zero, rd2_zero]
  by_cases h0 : v.length = 0
  · rw [if_neg (by omega)]; exact (hx.1 h0).symm
  · rw [if_pos (by omega), if_pos (by omega), if_pos (by omega)]
    by_cases h2 : (v.getD 0 []).length = (b.getD 0 []).length
    · rw [if_pos (by omega)]; exact (hx.2.1 h0 h2).symm
    · rw [if_neg (by omega)]; exact (hx.2.2 h0 h2).symm
theorem fitB_heads (v b : List (List Int)) (hv : vecsOK v = true) (hb : bookOK b = true) : (v.length = 0 → some (errB (fitB v b)) = some 0) ∧ (v.length ≠ 0 → (v.getD 0 []).length = (b.getD 0 []).length → some (errB (fitB v b)) = some 0) ∧ (v.length ≠ 0 → (v.getD 0 []).length ≠ (b.getD 0 []).length → some (errB (fitB v b)) = some 2) := by
  unfold fitB
  rw [hv, hb]
  refine ⟨fun h => ?_, fun h g => ?_, fun h g => ?_⟩
  · rw [beq_iff_eq.2 h]; rfl
  · rw [beq_iff_eq.2 g, Bool.or_true]; rfl
  · rw [beq_eq_false_iff_ne.2 h, beq_eq_false_iff_ne.2 g]; rfl
theorem fits_ev (v b : List (List Int)) (hv : v.length ≤ 9223372036854775807) (hb : b.length ≤ 10000) : Ev (fun k => feature_fits.f k v b) (fitsOf v b) := by
  unfold fitsOf
  by_cases h0 : v.length > 10000
  · rw [if_pos h0]
    refine ⟨1, fun k hk => ?_⟩
    obtain ⟨m, rfl⟩ : ∃ m, k = m + 1 := ⟨k - 1, by omega⟩
    dsimp only
    unfold feature_fits.f
    rw [if_pos (by omega)]
    rfl
  · rw [if_neg h0]
    obtain ⟨K1, e1⟩ := vectors_ev v hv
    obtain ⟨K2, e2⟩ := codebook_ev b
    rw [wrong_errB v (by omega)] at e1
    refine ⟨K1 + K2 + 1, fun k hk => ?_⟩
    obtain ⟨m, rfl⟩ : ∃ m, k = m + 1 := ⟨k - 1, by omega⟩
    have e1 := e1 m (by omega)
    have e2 := e2 m (by omega)
    dsimp only at e1 e2 ⊢
    unfold feature_fits.f
    rw [if_neg (by omega), decide_eq_false (by omega)]
    simp only [feature_fits.j0]
    rw [if_neg (by simp), e1, Option.bind_some, e2, Option.bind_some]
    cases h1 : vecsOK v with
    | false =>
      rw [if_neg (by simp [errB])]
      simp [fitB, h1, errB]
    | true =>
      rw [if_pos (by simp [errB])]
      cases h2 : bookOK b with
      | false =>
        rw [if_neg (by simp)]
        simp [fitB, h1, h2, errB]
      | true =>
        rw [if_pos rfl]
        exact heads v b h2 _ _ _ (fitB_heads v b h1 h2)
theorem Fits_ev (v b : List (List Int)) (hv : v.length ≤ 9223372036854775807) : Ev (fun k => earshotref03_Fits.f k v b) (fitsOf v b) := by
  obtain ⟨K1, e1⟩ := Wrong_ev v hv
  obtain ⟨K2, e2⟩ := Book_ev b
  refine ⟨K1 + K2 + 1, fun k hk => ?_⟩
  have e1 := e1 k (by omega)
  have e2 := e2 k (by omega)
  dsimp only at e1 e2 ⊢
  unfold fitsOf earshotref03_Fits.f
  rw [e1, Option.bind_some, e2, Option.bind_some]
  by_cases h0 : v.length > 10000
  · have hw : wrongOf v = 5 := by unfold wrongOf; rw [if_pos h0]
    rw [hw, if_pos h0, if_neg (by omega)]
  · rw [if_neg h0, wrong_errB v (by omega)]
    cases h1 : vecsOK v with
    | false =>
      rw [if_neg (by simp [errB])]
      simp [fitB, h1, errB]
    | true =>
      rw [if_pos (by simp [errB])]
      cases h2 : bookOK b with
      | false =>
        rw [if_neg (by simp)]
        simp [fitB, h1, h2, errB]
      | true =>
        rw [if_pos rfl]
        exact heads v b h2 _ _ _ (fitB_heads v b h1 h2)
/-- What a fitting pair has. -/
structure Fit (c : Nat) (v b : List (List Int)) : Prop where
  v1 : v.length ≤ 10000
  b0 : 1 ≤ b.length
  b1 : b.length ≤ 256
  vv : ∀ x ∈ v, Vec c x
  bb : ∀ x ∈ b, Vec c x
theorem fits_Fit (v b : List (List Int)) (h : fitsOf v b = 0) : Fit (b.getD 0 []).length v b := by
  unfold fitsOf at h
  split at h
  · omega
  · rename_i h0
    have h1 := (errB_zero _).1 h
    simp only [fitB, Bool.and_eq_true, Bool.or_eq_true, beq_iff_eq] at h1
    obtain ⟨⟨a, b'⟩, d⟩ := h1
    have hb := bookOK_len b b'
    refine ⟨by omega, hb.1, hb.2.1, fun x hx => ?_, vecsOK_Vec b hb.2.2⟩
    have hx2 := vecsOK_Vec v a x hx
    rcases d with d | d
    · have := List.length_pos_of_mem hx
      omega
    · rw [d] at hx2; exact hx2
theorem Fit_vecsOK {c : Nat} {v : List (List Int)} (hc : 1 ≤ c ∧ c ≤ 64) (h : ∀ x ∈ v, Vec c x) : vecsOK v = true := by
  apply List.all_eq_true.2
  intro x hx
  have h0 : (v.getD 0 []).length = c := by
    cases v with
    | nil => cases hx
    | cons a l => exact (h a List.mem_cons_self).1
  obtain ⟨p, q, r, s⟩ := h x hx
  simp only [vecOne, Bool.and_eq_true, beq_iff_eq, decide_eq_true_eq]
  exact ⟨⟨⟨by omega, by omega⟩, by omega⟩, (allIn_iff _ _ _).2 s⟩
theorem fits_of_Fit {c : Nat} {v b : List (List Int)} (h : Fit c v b) : fitsOf v b = 0 := by
  have hb0 := h.bb (b.getD 0 []) (by rw [List.getD_eq_getElem?_getD, List.getElem?_eq_getElem (by have := h.b0; omega)]; exact List.getElem_mem _)
  have hv := Fit_vecsOK ⟨hb0.2.1, hb0.2.2.1⟩ h.vv
  have hb := Fit_vecsOK ⟨hb0.2.1, hb0.2.2.1⟩ h.bb
  unfold fitsOf
  rw [if_neg (by have := h.v1; omega), errB_zero]
  simp only [fitB, bookOK, hv, hb, Bool.and_eq_true, Bool.or_eq_true, beq_iff_eq, decide_eq_true_eq]
  refine ⟨⟨trivial, ⟨h.b0, h.b1⟩, trivial⟩, ?_⟩
  by_cases h0 : v.length = 0
  · exact .inl h0
  · have hv0 := h.vv (v.getD 0 []) (by rw [List.getD_eq_getElem?_getD, List.getElem?_eq_getElem (by omega)]; exact List.getElem_mem _)
    exact .inr (by rw [hv0.1, hb0.1])
/-- The nearest codewords, and the cost. -/
def quant (v b : List (List Int)) : List Int := v.map fun x => (near x b).1
def costOf (v b : List (List Int)) : Int := sumL (fun x => (near x b).2) v
section
variable {c : Nat} {v b : List (List Int)} (hf : Fit c v b)
include hf
theorem cost_bound (j : Nat) (hj : j ≤ v.length) : 0 ≤ sumL (fun x => (near x b).2) (v.take j) ∧ sumL (fun x => (near x b).2) (v.take j) ≤ 281474976710656 * (j : Int) := by
  induction j with
  | zero => simp [sumL]
  | succ j ih =>
    have := ih (by omega)
    have h2 := near_range (hf.vv _ (List.getElem_mem (show j < v.length by omega))) hf.bb hf.b0
    rw [sumL_take _ _ _ (by omega)]
    omega
theorem Quantize_go : Ev (fun k => feature_Quantize.l0 k b [] v (v.length : Int) 0) (quant v b, 0) := by
  have l1 := hf.v1
  have e := up (fun j k => feature_Quantize.l0 k b ((v.take j).map fun x => (near x b).1) v (v.length : Int) (j : Int)) (fun _ => (quant v b, 0)) v.length (by
      refine Ev.step (f := fun _ => some (quant v b, 0)) (fun k => ?_) (Ev.now _)
      simp only [feature_Quantize.l0]
      rw [if_neg (by omega), List.take_length]
      rfl) (by
      rintro j hj ⟨K, ih⟩
      obtain ⟨K1, e1⟩ := nearest_ev (hf.vv _ (List.getElem_mem hj)) hf.bb (by have := hf.b1; omega)
      refine ⟨K + K1 + 1, fun k hk => ?_⟩
      obtain ⟨m, rfl⟩ : ∃ m, k = m + 1 := ⟨k - 1, by omega⟩
      have ih := ih m (by omega)
      have e1 := e1 m (by omega)
      dsimp only at ih e1 ⊢
      simp only [feature_Quantize.l0]
      rw [if_pos (by omega), if_pos (by omega), if_pos (by omega), rd2_lt v j hj, e1, Option.bind_some, if_pos (by simp; omega), w64 (n := (j : Int) + 1) (by omega) (by omega)]
      rw [List.take_succ_eq_append_getElem hj, List.map_append] at ih
      exact ih) 0 (by omega)
  exact e
theorem ref_Quantize_ev : Ev (fun k => earshotref03_Quantize.f k v b) (quant v b) := by
  have l1 := hf.v1
  have e := up (fun j k => earshotref03_Quantize.l0 k v b ((v.take j).map fun x => (near x b).1) (j : Int)) (fun _ => quant v b) v.length (by
      refine Ev.step (f := fun _ => some (quant v b)) (fun k => ?_) (Ev.now _)
      simp only [earshotref03_Quantize.l0]
      rw [if_neg (by omega), List.take_length]
      rfl) (by
      rintro j hj ⟨K, ih⟩
      obtain ⟨K1, e1⟩ := ref_nearest_ev (hf.vv _ (List.getElem_mem hj)) hf.bb (by have := hf.b1; omega) hf.b0
      refine ⟨K + K1 + 1, fun k hk => ?_⟩
      obtain ⟨m, rfl⟩ : ∃ m, k = m + 1 := ⟨k - 1, by omega⟩
      have ih := ih m (by omega)
      have e1 := e1 m (by omega)
      dsimp only at ih e1 ⊢
      simp only [earshotref03_Quantize.l0]
      rw [if_pos (by omega), if_pos (by omega), rd2_lt v j hj, e1, Option.bind_some, if_pos (by simp; omega), w64 (n := (j : Int) + 1) (by omega) (by omega)]
      rw [List.take_succ_eq_append_getElem hj, List.map_append] at ih
      exact ih) 0 (by omega)
  exact e
theorem Cost_go : Ev (fun k => feature_Cost.l0 k b 0 v (v.length : Int) 0) (costOf v b, 0) := by
  have l1 := hf.v1
  have e := up (fun j k => feature_Cost.l0 k b (sumL (fun x => (near x b).2) (v.take j)) v (v.length : Int) (j : Int)) (fun _ => (costOf v b, 0)) v.length (by
      refine Ev.step (f := fun _ => some (costOf v b, 0)) (fun k => ?_) (Ev.now _)
      simp only [feature_Cost.l0]
      rw [if_neg (by omega), List.take_length]
      rfl) (by
      rintro j hj ⟨K, ih⟩
      obtain ⟨K1, e1⟩ := nearest_ev (hf.vv _ (List.getElem_mem hj)) hf.bb (by have := hf.b1; omega)
      have h2 := cost_bound hf (j + 1) (by omega)
      rw [sumL_take _ _ _ hj] at h2
      refine ⟨K + K1 + 1, fun k hk => ?_⟩
      obtain ⟨m, rfl⟩ : ∃ m, k = m + 1 := ⟨k - 1, by omega⟩
      have ih := ih m (by omega)
      have e1 := e1 m (by omega)
      dsimp only at ih e1 ⊢
      simp only [feature_Cost.l0]
      rw [if_pos (by omega), if_pos (by omega), if_pos (by omega), rd2_lt v j hj, e1, Option.bind_some, w64 (by omega) (by omega), w64 (n := (j : Int) + 1) (by omega) (by omega)]
      rw [sumL_take _ _ _ hj] at ih
      exact ih) 0 (by omega)
  exact e
theorem ref_Cost_ev : Ev (fun k => earshotref03_Cost.f k v b) (costOf v b) := by
  have l1 := hf.v1
  have e := up (fun j k => earshotref03_Cost.l0 k v b (sumL (fun x => (near x b).2) (v.take j)) (j : Int)) (fun _ => costOf v b) v.length (by
      refine Ev.step (f := fun _ => some (costOf v b)) (fun k => ?_) (Ev.now _)
      simp only [earshotref03_Cost.l0]
      rw [if_neg (by omega), List.take_length]
      rfl) (by
      rintro j hj ⟨K, ih⟩
      have hx := hf.vv _ (List.getElem_mem hj)
      have hok := near_ok hx hf.bb hf.b0
      obtain ⟨K1, e1⟩ := ref_nearest_ev hx hf.bb (by have := hf.b1; omega) hf.b0
      obtain ⟨K2, e2⟩ := Distance_ev hx (book_get hx hf.bb (near v[j] b).1.toNat (by omega))
      have h2 := cost_bound hf (j + 1) (by omega)
      rw [sumL_take _ _ _ hj] at h2
      refine ⟨K + K1 + K2 + 1, fun k hk => ?_⟩
      obtain ⟨m, rfl⟩ : ∃ m, k = m + 1 := ⟨k - 1, by omega⟩
      have ih := ih m (by omega)
      have e1 := e1 m (by omega)
      have e2 := e2 m (by omega)
      dsimp only at ih e1 e2 ⊢
      simp only [earshotref03_Cost.l0]
      have hr : rd_L2 b (near v[j] b).1 = b.getD (near v[j] b).1.toNat [] := rfl
      rw [if_pos (by omega), if_pos (by omega), rd2_lt v j hj, e1, Option.bind_some, if_pos (by omega), if_pos (by omega), hr, e2, Option.bind_some, ← hok.2.2, w64 (by omega) (by omega), w64 (n := (j : Int) + 1) (by omega) (by omega)]
      rw [sumL_take _ _ _ hj] at ih
      exact ih) 0 (by omega)
  exact e
end
theorem Quantize_ok (v b : List (List Int)) (h : fitsOf v b = 0) : Ev (fun k => feature_Quantize.f k v b) (quant v b, 0) := by
  have hf := fits_Fit v b h
  obtain ⟨K1, e1⟩ := fits_ev v b (by have := hf.v1; omega) (by have := hf.b1; omega)
  obtain ⟨K2, e2⟩ := Quantize_go hf
  refine ⟨K1 + K2, fun k hk => ?_⟩
  have e1 := e1 k (by omega)
  have e2 := e2 k (by omega)
  dsimp only at e1 e2 ⊢
  unfold feature_Quantize.f
  rw [e1, Option.bind_some, if_pos h]
  exact e2
theorem Quantize_bad (v b : List (List Int)) (hv : v.length ≤ 9223372036854775807) (hb : b.length ≤ 10000) (h : fitsOf v b ≠ 0) : Ev (fun k => feature_Quantize.f k v b) ([], fitsOf v b) := by
  obtain ⟨K1, e1⟩ := fits_ev v b hv hb
  refine ⟨K1, fun k hk => ?_⟩
  have e1 := e1 k (by omega)
  dsimp only at e1 ⊢
  unfold feature_Quantize.f
  rw [e1, Option.bind_some, if_neg h]
theorem Cost_ok (v b : List (List Int)) (h : fitsOf v b = 0) : Ev (fun k => feature_Cost.f k v b) (costOf v b, 0) := by
  have hf := fits_Fit v b h
  obtain ⟨K1, e1⟩ := fits_ev v b (by have := hf.v1; omega) (by have := hf.b1; omega)
  obtain ⟨K2, e2⟩ := Cost_go hf
  refine ⟨K1 + K2, fun k hk => ?_⟩
  have e1 := e1 k (by omega)
  have e2 := e2 k (by omega)
  dsimp only at e1 e2 ⊢
  unfold feature_Cost.f
  rw [e1, Option.bind_some, if_pos h]
  exact e2
theorem Cost_bad (v b : List (List Int)) (hv : v.length ≤ 9223372036854775807) (hb : b.length ≤ 10000) (h : fitsOf v b ≠ 0) : Ev (fun k => feature_Cost.f k v b) (0, fitsOf v b) := by
  obtain ⟨K1, e1⟩ := fits_ev v b hv hb
  refine ⟨K1, fun k hk => ?_⟩
  have e1 := e1 k (by omega)
  dsimp only at e1 ⊢
  unfold feature_Cost.f
  rw [e1, Option.bind_some, if_neg h]
end Go.Proofs.YtdlbmbijobcljaaDoor.Pure

namespace Go.Proofs.YtdlbmbijobcljaaDoor.Pure
open Go.RowKit Go.Proofs.YtdlbmbijobcljaaDoor.X Go.Proofs.YtdlbmbijobcljaaDoorW.PrintWords Go.Proofs.YtdlbmbijobcljaaDoorW.PrintLast
theorem known_ev : Ev (fun k => earshotlaw03_known.f k) true := Ev.of (k := 2000) earshotlaw03_known.mono (by decide +kernel)
end Go.Proofs.YtdlbmbijobcljaaDoor.Pure

namespace Go.Proofs.YtdlbmbijobcljaaDoor.Pure
open Go.RowKit Go.Proofs.YtdlbmbijobcljaaDoor.X Go.Proofs.YtdlbmbijobcljaaDoorW.PrintWords Go.Proofs.YtdlbmbijobcljaaDoorW.PrintLast Go.Proofs.YtdlbmbijobcljaaDoorW.PrintMore
set_option linter.unusedVariables false
set_option linter.unusedSimpArgs false
theorem distance_ev {c : Nat} {a b : List Int} (ha : Vec c a) (hb : Vec c b) : Ev (fun k => feature_distance.f k a b 4611686018427387904) (dst a b) := by
  have l1 := ha.1
  have l2 := hb.1
  have l3 := ha.2.2.1
  have e := up (fun j k => feature_distance.l0 k a b 4611686018427387904 (distTo a b j) (a.length : Int) (j : Int)) (fun _ => dst a b) c (by
      refine Ev.step (f := fun _ => some (dst a b)) (fun k => ?_) (Ev.now _)
      simp only [feature_distance.l0]
      rw [if_neg (by omega)]
      unfold dst
      rw [l1]) (by
      rintro j hj ⟨K, ih⟩
      refine ⟨K + 1, fun k hk => ?_⟩
      obtain ⟨m, rfl⟩ : ∃ m, k = m + 1 := ⟨k - 1, by omega⟩
      have ih := ih m (by omega)
      dsimp only at ih ⊢
      have hbd := distTo_bound ha hb (j + 1)
      simp only [feature_distance.l0]
      rw [if_pos (by omega), if_pos (by omega), if_pos (by omega), if_pos (by omega), dist_add ha hb j hj, if_neg (by omega), w64 (n := (j : Int) + 1) (by omega) (by omega)]
      exact ih) 0 (by omega)
  exact e
theorem Distance_law (v u : List Int) (x2 : List (List Int)) (h1 : Ev (fun k => earshotlaw03_FeatureNearest.j1 k v x2) true) : Ev (fun k => earshotlaw03_FeatureNearest.j0 k v u x2 false) true := by
  obtain ⟨K1, e1⟩ := h1
  obtain ⟨K2, e2⟩ := vectors_ev [v, u] (by simp)
  obtain ⟨K3, e3⟩ := Vectors_ev [v, u] (by simp)
  rw [wrong_errB _ (by simp)] at e2
  cases h : vecsOK [v, u] with
  | true =>
    have hv := vecsOK_Vec _ h v (by simp)
    have hu := vecsOK_Vec _ h u (by simp)
    obtain ⟨K4, e4⟩ := distance_ev hv hu
    obtain ⟨K5, e5⟩ := Distance_ev hv hu
    refine ⟨K1 + K2 + K3 + K4 + K5 + 1, fun k hk => ?_⟩
    obtain ⟨m, rfl⟩ : ∃ m, k = m + 1 := ⟨k - 1, by omega⟩
    have e1 := e1 m (by omega)
    have e2 := e2 m (by omega)
    have e3 := e3 m (by omega)
    have e4 := e4 m (by omega)
    have e5 := e5 m (by omega)
    dsimp only at e1 e2 e3 e4 e5 ⊢
    rw [h] at e2 e3
    simp only [earshotlaw03_FeatureNearest.j0]
    unfold feature_Distance.f
    rw [if_neg (by simp), e2, Option.bind_some, if_pos (show errB true = 0 from rfl), e4, Option.bind_some, Option.bind_some, e3, Option.bind_some, if_pos rfl, if_pos rfl, e5, Option.bind_some, if_pos rfl]
    exact e1
  | false =>
    refine ⟨K1 + K2 + K3 + 1, fun k hk => ?_⟩
    obtain ⟨m, rfl⟩ : ∃ m, k = m + 1 := ⟨k - 1, by omega⟩
    have e1 := e1 m (by omega)
    have e2 := e2 m (by omega)
    have e3 := e3 m (by omega)
    dsimp only at e1 e2 e3 ⊢
    rw [h] at e2 e3
    simp only [earshotlaw03_FeatureNearest.j0]
    unfold feature_Distance.f
    rw [if_neg (by simp), e2, Option.bind_some, if_neg (by simp [errB]), Option.bind_some, e3, Option.bind_some, if_neg (by simp), if_pos rfl, if_pos rfl]
    exact e1
theorem vecsOK_one (v : List Int) (h : vecsOK [v] = true) : Vec v.length v := vecsOK_Vec _ h v (by simp)
theorem nearest_j1 (v : List Int) (b : List (List Int)) (hb : b.length ≤ 300) : Ev (fun k => earshotlaw03_FeatureNearest.j1 k v b) true := by
  obtain ⟨K0, e0⟩ := known_ev
  obtain ⟨K1, e1⟩ := fits_ev [v] b (by simp) (by omega)
  obtain ⟨K2, e2⟩ := Vectors_ev [v] (by simp)
  obtain ⟨K3, e3⟩ := Book_ev b
  have hF : fitsOf [v] b = errB (fitB [v] b) := by unfold fitsOf; rw [if_neg (by simp)]
  rw [hF] at e1
  cases hf : fitB [v] b with
  | true =>
    have hfit := fits_Fit [v] b (by rw [hF, hf]; rfl)
    have hf2 := hf
    simp only [fitB, Bool.and_eq_true, Bool.or_eq_true, beq_iff_eq] at hf2
    obtain ⟨⟨g1, g2⟩, g3⟩ := hf2
    have hlen : v.length = (b.getD 0 []).length := by rcases g3 with g | g; simp at g; exact g
    have hv := hfit.vv v (by simp)
    have hok := near_ok hv hfit.bb hfit.b0
    obtain ⟨K4, e4⟩ := nearest_ev hv hfit.bb (by omega)
    obtain ⟨K5, e5⟩ := ref_nearest_ev hv hfit.bb (by omega) hfit.b0
    obtain ⟨K6, e6⟩ := Distance_ev hv (book_get hv hfit.bb (near v b).1.toNat (by omega))
    refine ⟨K0 + K1 + K2 + K3 + K4 + K5 + K6 + 2, fun k hk => ?_⟩
    obtain ⟨m, rfl⟩ : ∃ m, k = m + 1 + 1 := ⟨k - 2, by omega⟩
    have e0 := e0 m (by omega)
    have e1 := e1 (m + 1) (by omega)
    have e2 := e2 (m + 1) (by omega)
    have e3 := e3 (m + 1) (by omega)
    have e4 := e4 (m + 1) (by omega)
    have e5 := e5 m (by omega)
    have e6 := e6 m (by omega)
    dsimp only at e0 e1 e2 e3 e4 e5 e6 ⊢
    rw [hf] at e1
    rw [g1] at e2
    rw [g2] at e3
    have hr : rd_L2 b (near v b).1 = b.getD (near v b).1.toNat [] := rfl
    have hne : ((v.length : Int) != ((rd_L2 b 0).length : Int)) = false := by rw [rd2_zero, ← hlen]; simp
    simp only [earshotlaw03_FeatureNearest.j1]
    unfold feature_Nearest.f
    rw [e1, Option.bind_some, if_pos (show errB true = 0 from rfl), e4, Option.bind_some, Option.bind_some, e2, Option.bind_some, if_pos rfl, e3, Option.bind_some, if_pos rfl, if_pos (by have := hfit.b0; omega), hne]
    simp only [earshotlaw03_FeatureNearest.j2]
    rw [if_neg (by simp), e5, Option.bind_some, if_pos trivial, if_pos rfl, if_pos hok.1, if_pos hok.2.1, hr, e6, Option.bind_some, if_pos hok.2.2, e0]
    rfl
  | false =>
    refine ⟨K0 + K1 + K2 + K3 + 2, fun k hk => ?_⟩
    obtain ⟨m, rfl⟩ : ∃ m, k = m + 1 + 1 := ⟨k - 2, by omega⟩
    have e0 := e0 m (by omega)
    have e1 := e1 (m + 1) (by omega)
    have e2 := e2 (m + 1) (by omega)
    have e3 := e3 (m + 1) (by omega)
    dsimp only at e0 e1 e2 e3 ⊢
    rw [hf] at e1
    have hj : earshotlaw03_FeatureNearest.j2 (m + 1) v b 0 0 2 true = some true := by
      simp only [earshotlaw03_FeatureNearest.j2]
      rw [if_pos trivial, if_pos trivial, if_pos trivial, if_pos trivial, e0]
      rfl
    simp only [earshotlaw03_FeatureNearest.j1]
    unfold feature_Nearest.f
    rw [e1, Option.bind_some, if_neg (by simp [errB]), Option.bind_some, e2, Option.bind_some]
    cases g1 : vecsOK [v] with
    | false => rw [if_neg (by simp)]; exact hj
    | true =>
      rw [if_pos rfl, e3, Option.bind_some]
      cases g2 : bookOK b with
      | false => rw [if_neg (by simp)]; exact hj
      | true =>
        have hbl := bookOK_len b g2
        have hne : ((v.length : Int) != ((rd_L2 b 0).length : Int)) = true := by
          rw [rd2_zero]
          by_cases h : v.length = (b.getD 0 []).length
          · exfalso
            have : fitB [v] b = true := by
              unfold fitB
              rw [g1, g2]
              have e1 : (([v] : List (List Int)).getD 0 []).length = v.length := rfl
              rw [e1, h]
              simp
            rw [this] at hf
            cases hf
          · rw [bne_iff_ne]; omega
        rw [if_pos rfl, if_pos (by omega), hne]
        exact hj
theorem nearest_known (v u : List Int) (b : List (List Int)) : Ev (fun k => earshotlaw03_FeatureNearest.j0 k v u b true) true := by
  obtain ⟨K, e⟩ := known_ev
  refine ⟨K + 1, fun k hk => ?_⟩
  obtain ⟨m, rfl⟩ : ∃ m, k = m + 1 := ⟨k - 1, by omega⟩
  have e := e m (by omega)
  dsimp only at e ⊢
  simp only [earshotlaw03_FeatureNearest.j0]
  rw [if_pos trivial, e]
  rfl
theorem nearestLaw_ev (v u : List Int) (b : List (List Int)) (hb : b.length ≤ 9223372036854775807) : Ev (fun k => earshotlaw03_FeatureNearest.f k v u b) true := by
  obtain ⟨K0, e0⟩ := few_ev b 40 (by omega) hb
  have c40 : (40 : Int) = ((40 : Nat) : Int) := rfl
  have main : ∃ x : Bool, Ev (fun k => earshotlaw03_FeatureNearest.j0 k v u b x) true ∧ ∀ k, (if (v.length : Int) > 70 then (earshotlaw03_FeatureNearest.j0 k v u b true) else (if (u.length : Int) > 70 then (earshotlaw03_FeatureNearest.j0 k v u b true) else ((some (fewOf b 40)).bind fun t101 => (if t101 = true then (earshotlaw03_FeatureNearest.j0 k v u b (decide ((b.length : Int) > 300))) else (if (b.length : Int) ≤ 300 then (earshotlaw03_FeatureNearest.j0 k v u b true) else (earshotlaw03_FeatureNearest.j0 k v u b (decide ((b.length : Int) > 300)))))))) = earshotlaw03_FeatureNearest.j0 k v u b x := by
    by_cases h1 : (v.length : Int) > 70
    · exact ⟨true, nearest_known v u b, fun k => by rw [if_pos h1]⟩
    · by_cases h2 : (u.length : Int) > 70
      · exact ⟨true, nearest_known v u b, fun k => by rw [if_neg h1, if_pos h2]⟩
      · by_cases h3 : (b.length : Int) > 300
        · exact ⟨true, nearest_known v u b, fun k => by rw [if_neg h1, if_neg h2, Option.bind_some, decide_eq_true h3]; split; rfl; rw [if_neg (by omega)]⟩
        · cases h4 : fewOf b 40 with
          | true => exact ⟨false, Distance_law v u b (nearest_j1 v b (by omega)), fun k => by rw [if_neg h1, if_neg h2, Option.bind_some, if_pos rfl, decide_eq_false h3]⟩
          | false => exact ⟨true, nearest_known v u b, fun k => by rw [if_neg h1, if_neg h2, Option.bind_some, if_neg (by simp), if_pos (by omega)]⟩
  obtain ⟨x, ⟨K3, e3⟩, hx⟩ := main
  refine ⟨K0 + K3, fun k hk => ?_⟩
  have e0 := e0 k (by omega)
  have e3 := e3 k (by omega)
  dsimp only at e0 e3 ⊢
  have hx := hx k
  unfold earshotlaw03_FeatureNearest.f
  rw [c40, e0, hx]
  exact e3
theorem FeatureNearest (v : List Int) (hv : v.length ≤ 9223372036854775807) (u : List Int) (hu : u.length ≤ 9223372036854775807) (b : List (List Int)) (hb : b.length ≤ 9223372036854775807) : ∃ k, earshotlaw03_FeatureNearest.f k v u b = some true := (nearestLaw_ev v u b hb).rounds
end Go.Proofs.YtdlbmbijobcljaaDoor.Pure

/-! What an argument that reads as a slice of numbers, or of slices of numbers, gives the walks. -/
namespace Go.Proofs.YtdlbmbijobcljaaDoor
open Go Go.ChangeShapes Go.WideShapes Go.Deep Go.RowKit Go.Proofs.YtdlbmbijobcljaaDoorW.PrintWords
theorem cells3 : Tryd.prog.cellsOf 3 = 1 := by kernel_rfl
theorem cells22 : Tryd.prog.cellsOf 22 = 1 := by kernel_rfl
theorem ints_of_trod {H : Type} {enc : TypeId × Value → H} {W : World} {base : Nat} {held : Bool} {a : Option Addr} {len cap : Nat} {d : DataW H} {ps : List MemPlace}
    (h : DataW.Trod enc Tryd.prog W base (fun _ => true) held 22 (.slice a len cap) d ps) : ∃ z : List Int, z.length = len ∧ len ≤ cap ∧ len ≤ 9223372036854775807 ∧ Kd.C (Kd.int .i64) W a len z ∧ ∀ n ∈ z, (Lit.int .i64 n).wf = true := by
  obtain ⟨fuel, hf⟩ := h
  rcases open_ints Tryd.underlying22 Tryd.underlying3 cells3 hf with ⟨hcs, _⟩ | ⟨x, l, c, zs, hcs, _, hl, hm, hz, _, hcell, hwz⟩
  · simp [Value.cells] at hcs
    obtain ⟨rfl, rfl, rfl⟩ := hcs
    exact ⟨[], rfl, Nat.le_refl _, by omega, ⟨rfl, by omega, fun hn => absurd hn (by omega)⟩, by simp⟩
  · simp [Value.cells] at hcs
    obtain ⟨rfl, rfl, rfl⟩ := hcs
    simp only [if_true] at hz
    unfold maxLen at hm
    have h63 : (2 : Nat) ^ 63 - 1 = 9223372036854775807 := by decide
    rw [h63] at hm
    refine ⟨zs.take len, by rw [List.length_take]; omega, hl, by omega, ⟨by rw [List.length_take]; omega, by omega, fun hn => ⟨x, rfl, fun j p hj => ⟨[.int .i64 p], rfl, rfl, fun i u hu => ?_⟩⟩⟩, fun n hn => hwz n (List.mem_of_mem_take hn)⟩
    obtain ⟨hj1, hj2⟩ := List.getElem?_eq_some_iff.1 hj
    rw [List.length_take] at hj1
    have hi : i = 0 := by
      have := (List.getElem?_eq_some_iff.1 hu).1
      simp at this
      exact this
    subst hi
    have hu2 : u = .int .i64 p := by simpa using hu.symm
    subst hu2
    have h3 := hcell j (by omega)
    rw [List.getElem_take] at hj2
    rw [List.getD_eq_getElem?_getD, List.getElem?_eq_getElem (by omega), Option.getD_some, hj2] at h3
    have hsz : (Kd.int .i64).sz = 1 := rfl
    rw [hsz, Nat.mul_one, Nat.add_zero]
    exact h3
theorem rows_of_trod {H : Type} {enc : TypeId × Value → H} {W : World} {base : Nat} {held : Bool} {a : Option Addr} {len cap : Nat} {d : DataW H} {ps : List MemPlace}
    (h : DataW.Trod enc Tryd.prog W base (fun _ => true) held 42 (.slice a len cap) d ps) : ∃ z : List (List Int), z.length = len ∧ len ≤ cap ∧ len ≤ 9223372036854775807 ∧ Kd.C (Kd.slice 3 (Kd.int .i64)) W a len z ∧ ∀ x ∈ z, ∀ n ∈ x, (Lit.int .i64 n).wf = true := by
  obtain ⟨fuel, hf⟩ := h
  have h63 : (2 : Nat) ^ 63 - 1 = 9223372036854775807 := by decide
  rcases open_int_rows Tryd.underlying42 Tryd.underlying22 Tryd.underlying3 cells22 cells3 hf with ⟨hcs, _⟩ | ⟨x, l, c, A, L, C, Z, hcs, _, hl, hm, _, hr⟩
  · simp [Value.cells] at hcs
    obtain ⟨rfl, rfl, rfl⟩ := hcs
    exact ⟨[], rfl, Nat.le_refl _, by omega, ⟨rfl, by omega, fun hn => absurd hn (by omega)⟩, by simp⟩
  · simp [Value.cells] at hcs
    obtain ⟨rfl, rfl, rfl⟩ := hcs
    unfold maxLen at hm hr
    rw [h63] at hm hr
    refine ⟨(List.range len).map fun r => (Z r).take (L r), by simp, hl, by omega, ⟨by simp, by omega, fun hn => ⟨x, rfl, fun j p hj => ?_⟩⟩, ?_⟩
    · obtain ⟨hj1, hj2⟩ := List.getElem?_eq_some_iff.1 hj
      rw [List.length_map, List.length_range] at hj1
      rw [List.getElem_map, List.getElem_range] at hj2
      obtain ⟨r1, r2, r3, r4, r5, r6, r7⟩ := hr j (by omega)
      have hpl : p.length = L j := by rw [← hj2, List.length_take]; omega
      refine ⟨[.slice (A j) p.length (C j)], rfl, ⟨A j, C j, rfl, by omega, ?_⟩, fun i u hu => ?_⟩
      · refine ⟨rfl, by omega, fun hn => ?_⟩
        cases hA : A j with
        | none => have := r6 hA; omega
        | some a' =>
          refine ⟨a', rfl, fun i q hq => ⟨[.int .i64 q], rfl, rfl, fun i' u hu => ?_⟩⟩
          obtain ⟨hq1, hq2⟩ := List.getElem?_eq_some_iff.1 hq
          have hi : i' = 0 := by
            have := (List.getElem?_eq_some_iff.1 hu).1
            simp at this
            exact this
          subst hi
          have hu2 : u = .int .i64 q := by simpa using hu.symm
          subst hu2
          have h3 := (r7 a' hA).2 i (by omega)
          subst hj2
          rw [List.getElem_take] at hq2
          rw [List.getD_eq_getElem?_getD, List.getElem?_eq_getElem (by omega), Option.getD_some, hq2] at h3
          have hsz : (Kd.int .i64).sz = 1 := rfl
          rw [hsz, Nat.mul_one, Nat.add_zero]
          exact h3
      · have hi : i = 0 := by
          have := (List.getElem?_eq_some_iff.1 hu).1
          simp at this
          exact this
        subst hi
        have hu2 : u = .slice (A j) p.length (C j) := by simpa using hu.symm
        subst hu2
        have hsz : (Kd.slice 3 (Kd.int .i64)).sz = 1 := rfl
        rw [hsz, Nat.mul_one, Nat.add_zero, hpl]
        exact r1
    · intro y hy n hn
      obtain ⟨r, hr1, rfl⟩ := List.mem_map.1 hy
      have := List.mem_range.1 hr1
      exact (hr r (by omega)).2.2.2.2.1 n (List.mem_of_mem_take hn)
end Go.Proofs.YtdlbmbijobcljaaDoor

namespace Go.Proofs.YtdlbmbijobcljaaDoor.featureNearest
open Go.ChangeShapes Go.WideShapes Go.ChangeAt Go.RowKit
open Go.ChangeMaps (open_string shut_string)
set_option linter.unusedVariables false
theorem own : ownKnob Tryd.prog.godebug = none := by kernel_rfl
theorem laidOut : laidOutB Tryd.prog = true := by kernel_rfl
set_option maxRecDepth 100000 in
theorem lifted (os : Os) (started : os.Started) (H : Type) (enc : TypeId × Value → H) :
    ReturnsInHanded {} Tryd.checked os 17 .any (fun w args => (Rows.featureNearestSpec.pre enc Tryd.prog Tryd.f17 Rows.featureNearestRow.domain false w args ∧ laidMetH Tryd.prog laidC w) ∧ sizedMet enc Tryd.prog Tryd.f17 (OpenSpec.ofChange Rows.featureNearestSpec) false w args) (Rows.featureNearestSpec.post enc Tryd.prog Tryd.f17 false true false false) := by
  refine returnsInHanded_of_change_and (C := Tryd.checked) (X := fun w _ => laidMetH Tryd.prog laidC w) (fun _ _ _ hh h => h.of_heap hh) own started (by kernel_rfl) Tryd.func17
    (ChangeSpec.witness_shaped (enc := enc) (C := Tryd.checked) (os := os) (X := fun w _ => laidMetH Tryd.prog laidC w) false (World.doorLaid Tryd.prog 4000 os) #[.slice none 0 0, .slice none 0 0, .slice none 0 0] 8 rfl (World.shaped_of_RefB (by kernel_rfl) (by kernel_rfl)) (by kernel_rfl) (by kernel_rfl) (by kernel_rfl) (door_met os _)) ?_
  intro W base args ds gs before hval0 hW hcnd hsz0 hL _
  have ht := tab_of_laid hL
  have hval : ∀ (j : Nat) t v, Tryd.f17.params[j]? = some t → args[j]? = some v → Value.okWide Tryd.prog W .any base t v := hval0
  have hW' := hW
  obtain ⟨p, q, hA0, hV, rfl, hfz, hnd⟩ := hW
  have hA : DataW.TrodAll enc Tryd.prog W 0 (fun _ => true) true Tryd.f17.params.toList args.toList ds p := hA0
  rw [Tryd.params17] at hA hval
  obtain ⟨v0, vs0, d0, ds0, p0, q0, hargs, rfl, rfl, h0, r0⟩ := trodAll_cons hA
  obtain ⟨v1, vs1, d1, ds1, p1, q1, rfl, rfl, rfl, h1, r1⟩ := trodAll_cons r0
  obtain ⟨v2, vs2, d2, ds2, p2, q2, rfl, rfl, rfl, h2, r2⟩ := trodAll_cons r1
  obtain ⟨rfl, rfl, rfl⟩ := trodAll_nil r2
  obtain rfl : args = #[v0, v1, v2] := by cases args; simp_all
  obtain ⟨rfl, rfl⟩ := trodVars_none hV
  obtain ⟨a0, len0, cap0, rfl⟩ := okWide_slice Tryd.underlying22 (hval 0 22 v0 rfl rfl)
  have k0 := h0
  have lt0 : ∀ x ∈ p0, x.block < W.heap.size := by obtain ⟨m, hm⟩ := k0; exact DataW.trod_lt m _ _ _ hm
  obtain ⟨z0, rfl, hc0, hm0, hr0, hw0⟩ := ints_of_trod h0
  obtain ⟨a1, len1, cap1, rfl⟩ := okWide_slice Tryd.underlying22 (hval 1 22 v1 rfl rfl)
  have k1 := h1
  have lt1 : ∀ x ∈ p1, x.block < W.heap.size := by obtain ⟨m, hm⟩ := k1; exact DataW.trod_lt m _ _ _ hm
  obtain ⟨z1, rfl, hc1, hm1, hr1, hw1⟩ := ints_of_trod h1
  obtain ⟨a2, len2, cap2, rfl⟩ := okWide_slice Tryd.underlying42 (hval 2 42 v2 rfl rfl)
  have k2 := h2
  have lt2 : ∀ x ∈ p2, x.block < W.heap.size := by obtain ⟨m, hm⟩ := k2; exact DataW.trod_lt m _ _ _ hm
  obtain ⟨z2, rfl, hc2, hm2, hr2, hw2⟩ := rows_of_trod h2
  clear hA0 hval0 hsz0
  obtain ⟨k, hk⟩ := Pure.FeatureNearest z0 hm0 z1 hm1 z2 hm2
  refine (X.earshotlaw03_FeatureNearest.calls k (fun k_ => k_ < W.heap.size) _ _ z0 (fun k_ => k_ < W.heap.size) _ _ z1 _ _ z2 true W ht (Go.Proofs.YtdlbmbijobcljaaDoorW.PrintWords.Kd.V_mk hc0 (Go.Proofs.YtdlbmbijobcljaaDoorW.PrintWords.Kd.C_F (Go.Proofs.YtdlbmbijobcljaaDoorW.PrintWords.Kd.heap_int .i64) hr0)) (Go.Proofs.YtdlbmbijobcljaaDoorW.PrintWords.Kd.V_mk hc1 (Go.Proofs.YtdlbmbijobcljaaDoorW.PrintWords.Kd.C_F (Go.Proofs.YtdlbmbijobcljaaDoorW.PrintWords.Kd.heap_int .i64) hr1)) hr2 hc2 hk).mono fun e W' ⟨he, bel⟩ => ?_
  subst he
  exact ⟨_, rfl, _, _, _, [], _, [], hW', trodAll_mk1 (shut_bool Tryd.underlying4 _), (trodAll_cons_mk (Below.trod laidOut (by kernel_rfl) (of_decide_eq_true (by kernel_rfl)) k0 bel lt0) (trodAll_cons_mk (Below.trod laidOut (by kernel_rfl) (of_decide_eq_true (by kernel_rfl)) k1 bel lt1) (trodAll_cons_mk (Below.trod laidOut (by kernel_rfl) (of_decide_eq_true (by kernel_rfl)) k2 bel lt2) trodAll_mk0))), rfl, bel.frame _, fun h => by cases h⟩
theorem closed : joinedFacts Tryd.prog 17 Tryd.f17 Rows.featureNearestSpec Rows.featureNearestRow = true :=
  joined_of rfl rfl rfl (by kernel_rfl) (by kernel_rfl) (by kernel_rfl) (by kernel_rfl) (by kernel_rfl) (by kernel_rfl) (by kernel_rfl) (by kernel_rfl) (by kernel_rfl) (by kernel_rfl) (by kernel_rfl) (by kernel_rfl) (by kernel_rfl) (by kernel_rfl) (by kernel_rfl) (by kernel_rfl) (by kernel_rfl) (by kernel_rfl) (by kernel_rfl) (by kernel_rfl) (by kernel_rfl) (by kernel_rfl) (by kernel_rfl)
theorem over : Rows.featureNearestRow.holds Tryd.pinned (OpenSpec.ofChange Rows.featureNearestSpec) :=
  OpenClaim.holds_of_wide 17 Tryd.f17 rfl rfl rfl rfl rfl rfl rfl ⟨rfl, rfl, rfl, rfl, rfl⟩ rfl rfl rfl rfl rfl (by kernel_rfl) Tryd.func17 closed
    (of_decide_eq_true (by kernel_rfl)) (by unfold Func.isWrapper; first | (rw [if_pos (by decide +kernel)]; kernel_rfl) | (rw [if_neg (by decide +kernel)]; exact ⟨rfl, rfl⟩))
    (fun os started H enc _ => lifted os started H enc)
theorem proved : Rows.FeatureNearestSaid := over
end Go.Proofs.YtdlbmbijobcljaaDoor.featureNearest
namespace Go.Proofs.YtdlbmbijobcljaaDoor
/-- The row, under a short name, for the claim. -/
theorem featureNearest_holds : Rows.FeatureNearestSaid := featureNearest.proved
/-- THE TIED CARD. -/
theorem featureNearest_card : Rows.FeatureNearestCardSaid :=
  Claim7.holds_tied_plain_at .later [] [.data] true (true, "113a42d89db8992b3819bea1327673c10f2f9c06b5576fb37f9626d51ac793bb") false
    featureNearest_holds (fun _ h => by cases h) (by kernel_rfl) (fun _ h => by cases h) featureNearest_row_tie rfl ⟨rfl, rfl⟩ jMain rfl
    (fun f fn hf hfn => by
      obtain rfl : f = 17 := Option.some.inj ((show Tryd.prog.funcNamed "earshot/earshotlaw03.FeatureNearest" = some 17 by kernel_rfl).symm.trans hf) |>.symm
      obtain rfl : fn = Tryd.f17 := (Option.some.inj (Tryd.func17.symm.trans hfn)).symm
      exact ⟨by kernel_rfl, fun j t ht => by
        rw [Tryd.params17] at ht
        have hm : t ∈ [22, 22, 42] := by simpa using Array.mem_of_getElem? ht
        have hall : ([22, 22, 42].all fun u => !Tryd.prog.wantsStandIn u) = true := by kernel_rfl
        exact (show Tryd.prog.wantsStandIn t = false by simpa using List.all_eq_true.1 hall t hm)⟩)
    (by kernel_rfl)
end Go.Proofs.YtdlbmbijobcljaaDoor
