/- FeatureImproves: for every input whatever the law returns true, and each argument reads behind the call as it read before. Conditions: those of the row: the listed variable earshot/api.Cosines reads as laid, which the card ties to the program's text. By a program of this session's own (wip/print/gen_row2.py). -/
import Derived.Test.YtdlbmbijobcljaaDoorLbFeatureImproves
import Derived.Test.YtdlbmbijobcljaaDoorLaFeatureImproves
import Derived.Test.YtdlbmbijobcljaaDoorMB
import Derived.Test.YtdlbmbijobcljaaDoorMK
import Derived.Test.YtdlbmbijobcljaaDoorRows
import Derived.Test.YtdlbmbijobcljaaDoorMA
import Derived.Deep.Matrix
import Derived.ProofKit
import Derived.OpenShut
import Derived.Test.YtdlbmbijobcljaaDoorCards
import Derived.Test.YtdlbmbijobcljaaDoorMJ
import Derived.Test.YtdlbmbijobcljaaDoorHJoinedE
import Derived.Test.YtdlbmbijobcljaaDoorTie
import Derived.LaidMore
import Derived.Stop.Joined
import Derived.SevenTiedAt
import Derived.WalkKit
import Derived.ShutString
import Derived.ChangeOld
import Derived.Below
import Derived.SizedLaws
import Derived.Test.YtdlbmbijobcljaaDoorVA
namespace Go.Proofs.YtdlbmbijobcljaaDoor.Pure
open Go.RowKit Go.Proofs.YtdlbmbijobcljaaDoor.X Go.Proofs.YtdlbmbijobcljaaDoorW.PrintWords Go.Proofs.YtdlbmbijobcljaaDoorW.PrintLast Go.Proofs.YtdlbmbijobcljaaDoorW.PrintMore
set_option linter.unusedVariables false
set_option linter.unusedSimpArgs false
set_option linter.unusedSectionVars false
theorem errB_zero (b : Bool) : errB b = 0 ↔ b = true := by cases b <;> simp [errB]
theorem wrong_errB (v : List (List Int)) (h : v.length ≤ 10000) : wrongOf v = errB (vecsOK v) := by unfold wrongOf; rw [if_neg (by omega)]
theorem codebook_ev (b : List (List Int)) : Ev (fun k => feature_codebook.f k b) (bookOK b) := by
  by_cases h1 : 1 ≤ b.length
  · by_cases h2 : b.length ≤ 256
    · obtain ⟨K, e⟩ := vectors_ev b (by omega)
      rw [wrong_errB b (by omega)] at e
      refine ⟨K, fun k hk => ?_⟩
      have e := e k hk
      dsimp only at e ⊢
      unfold feature_codebook.f bookOK
      rw [if_pos (by omega), if_pos (by omega), e, decide_eq_true h1, decide_eq_true h2]
      cases vecsOK b <;> rfl
    · refine ⟨0, fun k _ => ?_⟩
      dsimp only
      unfold feature_codebook.f bookOK
      rw [if_pos (by omega), if_neg (by omega), decide_eq_false h2]
      simp
  · refine ⟨0, fun k _ => ?_⟩
    dsimp only
    unfold feature_codebook.f bookOK
    rw [if_neg (by omega), decide_eq_false h1]
    simp
theorem Book_ev (b : List (List Int)) : Ev (fun k => earshotref03_Book.f k b) (bookOK b) := by
  by_cases h1 : 1 ≤ b.length
  · by_cases h2 : b.length ≤ 256
    · obtain ⟨K, e⟩ := Vectors_ev b (by omega)
      refine ⟨K, fun k hk => ?_⟩
      have e := e k hk
      dsimp only at e ⊢
      unfold earshotref03_Book.f bookOK
      rw [if_pos (by omega), if_pos (by omega), e, decide_eq_true h1, decide_eq_true h2]
      simp
    · refine ⟨0, fun k _ => ?_⟩
      dsimp only
      unfold earshotref03_Book.f bookOK
      rw [if_pos (by omega), if_neg (by omega), decide_eq_false h2]
      simp
  · refine ⟨0, fun k _ => ?_⟩
    dsimp only
    unfold earshotref03_Book.f bookOK
    rw [if_neg (by omega), decide_eq_false h1]
    simp
theorem bookOK_len (b : List (List Int)) (h : bookOK b = true) : 1 ≤ b.length ∧ b.length ≤ 256 ∧ vecsOK b = true := by
  simp only [bookOK, Bool.and_eq_true, decide_eq_true_eq] at h
  exact ⟨h.1.1, h.1.2, h.2⟩
theorem heads (v b : List (List Int)) (hb : bookOK b = true) (x y z : Option Int) (hx : (v.length = 0 → z = x) ∧ (v.length ≠ 0 → (v.getD 0 []).length = (b.getD 0 []).length → z = x) ∧ (v.length ≠ 0 → (v.getD 0 []).length ≠ (b.getD 0 []).length → z = y)) :
    (if (v.length : Int) > 0 then (if 0 < (v.length : Int) then (if 0 < (b.length : Int) then (if ((rd_L2 v 0).length : Int) = ((rd_L2 b 0).length : Int) then x else y) else none) else none) else x) = z := by
  have h1 := bookOK_len b hb
  rw [rd2_zero, rd2_zero]
  by_cases h0 : v.length = 0
  · rw [if_neg (by omega)]; exact (hx.1 h0).symm
  · rw [if_pos (by omega), if_pos (by omega), if_pos (by omega)]
    by_cases h2 : (v.getD 0 []).length = (b.getD 0 []).length
    · rw [if_pos (by omega)]; exact (hx.2.1 h0 h2).symm
    · rw [if_neg (by omega)]; exact (hx.2.2 h0 h2).symm
theorem fitB_heads (v b : List (List Int)) (hv : vecsOK v = true) (hb : bookOK b = true) : (v.length = 0 → some (errB (fitB v b)) = some 0) ∧ (v.length ≠ 0 → (v.getD 0 []).length = (b.getD 0 []).length → some (errB (fitB v b)) = some 0) ∧ (v.length ≠ 0 → (v.getD 0 []).length ≠ (b.getD 0 []).length → some (errB (fitB v b)) = some 2) := by
  unfold fitB
  rw [hv, hb]
  refine ⟨fun h => ?_, fun h g => ?_, fun h g => ?_⟩
  · rw [beq_iff_eq.2 h]; rfl
  · rw [beq_iff_eq.2 g, Bool.or_true]; rfl
  · rw [beq_eq_false_iff_ne.2 h, beq_eq_false_iff_ne.2 g]; rfl
theorem fits_ev (v b : List (List Int)) (hv : v.length ≤ 9223372036854775807) (hb : b.length ≤ 10000) : Ev (fun k => feature_fits.f k v b) (fitsOf v b) := by
  unfold fitsOf
  by_cases h0 : v.length > 10000
  · rw [if_pos h0]
    refine ⟨1, fun k hk => ?_⟩
    obtain ⟨m, rfl⟩ : ∃ m, k = m + 1 := ⟨k - 1, by omega⟩
    dsimp only
    unfold feature_fits.f
    rw [if_pos (by omega)]
    rfl
  · rw [if_neg h0]
    obtain ⟨K1, e1⟩ := vectors_ev v hv
    obtain ⟨K2, e2⟩ := codebook_ev b
    rw [wrong_errB v (by omega)] at e1
    refine ⟨K1 + K2 + 1, fun k hk => ?_⟩
    obtain ⟨m, rfl⟩ : ∃ m, k = m + 1 := ⟨k - 1, by omega⟩
    have e1 := e1 m (by omega)
    have e2 := e2 m (by omega)
    dsimp only at e1 e2 ⊢
    unfold feature_fits.f
    rw [if_neg (by omega), decide_eq_false (by omega)]
    simp only [feature_fits.j0]
    rw [if_neg (by simp), e1, Option.bind_some, e2, Option.bind_some]
    cases h1 : vecsOK v with
    | false =>
      rw [if_neg (by simp [errB])]
      simp [fitB, h1, errB]
    | true =>
      rw [if_pos (by simp [errB])]
      cases h2 : bookOK b with
      | false =>
        rw [if_neg (by simp)]
        simp [fitB, h1, h2, errB]
      | true =>
        rw [if_pos rfl]
        exact heads v b h2 _ _ _ (fitB_heads v b h1 h2)
theorem Fits_ev (v b : List (List Int)) (hv : v.length ≤ 9223372036854775807) : Ev (fun k => earshotref03_Fits.f k v b) (fitsOf v b) := by
  obtain ⟨K1, e1⟩ := Wrong_ev v hv
  obtain ⟨K2, e2⟩ := Book_ev b
  refine ⟨K1 + K2 + 1, fun k hk => ?_⟩
  have e1 := e1 k (by omega)
  have e2 := e2 k (by omega)
  dsimp only at e1 e2 ⊢
  unfold fitsOf earshotref03_Fits.f
  rw [e1, Option.bind_some, e2, Option.bind_some]
  by_cases h0 : v.length > 10000
  · have hw : wrongOf v = 5 := by unfold wrongOf; rw [if_pos h0]
    rw [hw, if_pos h0, if_neg (by omega)]
  · rw [if_neg h0, wrong_errB v (by omega)]
    cases h1 : vecsOK v with
    | false =>
      rw [if_neg (by simp [errB])]
      simp [fitB, h1, errB]
    | true =>
      rw [if_pos (by simp [errB])]
      cases h2 : bookOK b with
      | false =>
        rw [if_neg (by simp)]
        simp [fitB, h1, h2, errB]
      | true =>
        rw [if_pos rfl]
        exact heads v b h2 _ _ _ (fitB_heads v b h1 h2)
/-- What a fitting pair has. -/
structure Fit (c : Nat) (v b : List (List Int)) : Prop where
  v1 : v.length ≤ 10000
  b0 : 1 ≤ b.length
  b1 : b.length ≤ 256
  vv : ∀ x ∈ v, Vec c x
  bb : ∀ x ∈ b, Vec c x
theorem fits_Fit (v b : List (List Int)) (h : fitsOf v b = 0) : Fit (b.getD 0 []).length v b := by
  unfold fitsOf at h
  split at h
  · omega
  · rename_i h0
    have h1 := (errB_zero _).1 h
    simp only [fitB, Bool.and_eq_true, Bool.or_eq_true, beq_iff_eq] at h1
    obtain ⟨⟨a, b'⟩, d⟩ := h1
    have hb := bookOK_len b b'
    refine ⟨by omega, hb.1, hb.2.1, fun x hx => ?_, vecsOK_Vec b hb.2.2⟩
    have hx2 := vecsOK_Vec v a x hx
    rcases d with d | d
    · have := List.length_pos_of_mem hx
      omega
    · rw [d] at hx2; exact hx2
theorem Fit_vecsOK {c : Nat} {v : List (List Int)} (hc : 1 ≤ c ∧ c ≤ 64) (h : ∀ x ∈ v, Vec c x) : vecsOK v = true := by
  apply List.all_eq_true.2
  intro x hx
  have h0 : (v.getD 0 []).length = c := by
    cases v with
    | nil => cases hx
    | cons a l => exact (h a List.mem_cons_self).1
  obtain ⟨p, q, r, s⟩ := h x hx
  simp only [vecOne, Bool.and_eq_true, beq_iff_eq, decide_eq_true_eq]
  exact ⟨⟨⟨by omega, by omega⟩, by omega⟩, (allIn_iff _ _ _).2 s⟩
theorem fits_of_Fit {c : Nat} {v b : List (List Int)} (h : Fit c v b) : fitsOf v b = 0 := by
  have hb0 := h.bb (b.getD 0 []) (by rw [List.getD_eq_getElem?_getD, List.getElem?_eq_getElem (by have := h.b0; omega)]; exact List.getElem_mem _)
  have hv := Fit_vecsOK ⟨hb0.2.1, hb0.2.2.1⟩ h.vv
  have hb := Fit_vecsOK ⟨hb0.2.1, hb0.2.2.1⟩ h.bb
  unfold fitsOf
  rw [if_neg (by have := h.v1; omega), errB_zero]
  simp only [fitB, bookOK, hv, hb, Bool.and_eq_true, Bool.or_eq_true, beq_iff_eq, decide_eq_true_eq]
  refine ⟨⟨trivial, ⟨h.b0, h.b1⟩, trivial⟩, ?_⟩
  by_cases h0 : v.length = 0
  · exact .inl h0
  · have hv0 := h.vv (v.getD 0 []) (by rw [List.getD_eq_getElem?_getD, List.getElem?_eq_getElem (by omega)]; exact List.getElem_mem _)
    exact .inr (by rw [hv0.1, hb0.1])
/-- The nearest codewords, and the cost. -/
def quant (v b : List (List Int)) : List Int := v.map fun x => (near x b).1
def costOf (v b : List (List Int)) : Int := sumL (fun x => (near x b).2) v
section
variable {c : Nat} {v b : List (List Int)} (hf : Fit c v b)
include hf
theorem cost_bound (j : Nat) (hj : j ≤ v.length) : 0 ≤ sumL (fun x => (near x b).2) (v.take j) ∧ sumL (fun x => (near x b).2) (v.take j) ≤ 281474976710656 * (j : Int) := by
  induction j with
  | zero => simp [sumL]
  | succ j ih =>
    have := ih (by omega)
    have h2 := near_range (hf.vv _ (List.getElem_mem (show j < v.length by omega))) hf.bb hf.b0
    rw [sumL_take _ _ _ (by omega)]
    omega
theorem Quantize_go : Ev (fun k => feature_Quantize.l0 k b [] v (v.length : Int) 0) (quant v b, 0) := by
  have l1 := hf.v1
  have e := up (fun j k => feature_Quantize.l0 k b ((v.take j).map fun x => (near x b).1) v (v.length : Int) (j : Int)) (fun _ => (quant v b, 0)) v.length (by
      refine Ev.step (f := fun _ => some (quant v b, 0)) (fun k => ?_) (Ev.now _)
      simp only [feature_Quantize.l0]
      rw [if_neg (by omega), List.take_length]
      rfl) (by
      rintro j hj ⟨K, ih⟩
      obtain ⟨K1, e1⟩ := nearest_ev (hf.vv _ (List.getElem_mem hj)) hf.bb (by have := hf.b1; omega)
      refine ⟨K + K1 + 1, fun k hk => ?_⟩
      obtain ⟨m, rfl⟩ : ∃ m, k = m + 1 := ⟨k - 1, by omega⟩
      have ih := ih m (by omega)
      have e1 := e1 m (by omega)
      dsimp only at ih e1 ⊢
      simp only [feature_Quantize.l0]
      rw [if_pos (by omega), if_pos (by omega), if_pos (by omega), rd2_lt v j hj, e1, Option.bind_some, if_pos (by simp; omega), w64 (n := (j : Int) + 1) (by omega) (by omega)]
      rw [List.take_succ_eq_append_getElem hj, List.map_append] at ih
      exact ih) 0 (by omega)
  exact e
theorem ref_Quantize_ev : Ev (fun k => earshotref03_Quantize.f k v b) (quant v b) := by
  have l1 := hf.v1
  have e := up (fun j k => earshotref03_Quantize.l0 k v b ((v.take j).map fun x => (near x b).1) (j : Int)) (fun _ => quant v b) v.length (by
      refine Ev.step (f := fun _ => some (quant v b)) (fun k => ?_) (Ev.now _)
      simp only [earshotref03_Quantize.l0]
      rw [if_neg (by omega), List.take_length]
      rfl) (by
      rintro j hj ⟨K, ih⟩
      obtain ⟨K1, e1⟩ := ref_nearest_ev (hf.vv _ (List.getElem_mem hj)) hf.bb (by have := hf.b1; omega) hf.b0
      refine ⟨K + K1 + 1, fun k hk => ?_⟩
      obtain ⟨m, rfl⟩ : ∃ m, k = m + 1 := ⟨k - 1, by omega⟩
      have ih := ih m (by omega)
      have e1 := e1 m (by omega)
      dsimp only at ih e1 ⊢
      simp only [earshotref03_Quantize.l0]
      rw [if_pos (by omega), if_pos (by omega), rd2_lt v j hj, e1, Option.bind_some, if_pos (by simp; omega), w64 (n := (j : Int) + 1) (by omega) (by omega)]
      rw [List.take_succ_eq_append_getElem hj, List.map_append] at ih
      exact ih) 0 (by omega)
  exact e
theorem Cost_go : Ev (fun k => feature_Cost.l0 k b 0 v (v.length : Int) 0) (costOf v b, 0) := by
  have l1 := hf.v1
  have e := up (fun j k => feature_Cost.l0 k b (sumL (fun x => (near x b).2) (v.take j)) v (v.length : Int) (j : Int)) (fun _ => (costOf v b, 0)) v.length (by
      refine Ev.step (f := fun _ => some (costOf v b, 0)) (fun k => ?_) (Ev.now _)
      simp only [feature_Cost.l0]
      rw [if_neg (by omega), List.take_length]
      rfl) (by
      rintro j hj ⟨K, ih⟩
      obtain ⟨K1, e1⟩ := nearest_ev (hf.vv _ (List.getElem_mem hj)) hf.bb (by have := hf.b1; omega)
      have h2 := cost_bound hf (j + 1) (by omega)
      rw [sumL_take _ _ _ hj] at h2
      refine ⟨K + K1 + 1, fun k hk => ?_⟩
      obtain ⟨m, rfl⟩ : ∃ m, k = m + 1 := ⟨k - 1, by omega⟩
      have ih := ih m (by omega)
      have e1 := e1 m (by omega)
      dsimp only at ih e1 ⊢
      simp only [feature_Cost.l0]
      rw [if_pos (by omega), if_pos (by omega), if_pos (by omega), rd2_lt v j hj, e1, Option.bind_some, w64 (by omega) (by omega), w64 (n := (j : Int) + 1) (by omega) (by omega)]
      rw [sumL_take _ _ _ hj] at ih
      exact ih) 0 (by omega)
  exact e
theorem ref_Cost_ev : Ev (fun k => earshotref03_Cost.f k v b) (costOf v b) := by
  have l1 := hf.v1
  have e := up (fun j k => earshotref03_Cost.l0 k v b (sumL (fun x => (near x b).2) (v.take j)) (j : Int)) (fun _ => costOf v b) v.length (by
      refine Ev.step (f := fun _ => some (costOf v b)) (fun k => ?_) (Ev.now _)
      simp only [earshotref03_Cost.l0]
      rw [if_neg (by omega), List.take_length]
      rfl) (by
      rintro j hj ⟨K, ih⟩
      have hx := hf.vv _ (List.getElem_mem hj)
      have hok := near_ok hx hf.bb hf.b0
      obtain ⟨K1, e1⟩ := ref_nearest_ev hx hf.bb (by have := hf.b1; omega) hf.b0
      obtain ⟨K2, e2⟩ := Distance_ev hx (book_get hx hf.bb (near v[j] b).1.toNat (by omega))
      have h2 := cost_bound hf (j + 1) (by omega)
      rw [sumL_take _ _ _ hj] at h2
      refine ⟨K + K1 + K2 + 1, fun k hk => ?_⟩
      obtain ⟨m, rfl⟩ : ∃ m, k = m + 1 := ⟨k - 1, by omega⟩
      have ih := ih m (by omega)
      have e1 := e1 m (by omega)
      have e2 := e2 m (by omega)
      dsimp only at ih e1 e2 ⊢
      simp only [earshotref03_Cost.l0]
      have hr : rd_L2 b (near v[j] b).1 = b.getD (near v[j] b).1.toNat [] := rfl
      rw [if_pos (by omega), if_pos (by omega), rd2_lt v j hj, e1, Option.bind_some, if_pos (by omega), if_pos (by omega), hr, e2, Option.bind_some, ← hok.2.2, w64 (by omega) (by omega), w64 (n := (j : Int) + 1) (by omega) (by omega)]
      rw [sumL_take _ _ _ hj] at ih
      exact ih) 0 (by omega)
  exact e
end
theorem Quantize_ok (v b : List (List Int)) (h : fitsOf v b = 0) : Ev (fun k => feature_Quantize.f k v b) (quant v b, 0) := by
  have hf := fits_Fit v b h
  obtain ⟨K1, e1⟩ := fits_ev v b (by have := hf.v1; omega) (by have := hf.b1; omega)
  obtain ⟨K2, e2⟩ := Quantize_go hf
  refine ⟨K1 + K2, fun k hk => ?_⟩
  have e1 := e1 k (by omega)
  have e2 := e2 k (by omega)
  dsimp only at e1 e2 ⊢
  unfold feature_Quantize.f
  rw [e1, Option.bind_some, if_pos h]
  exact e2
theorem Quantize_bad (v b : List (List Int)) (hv : v.length ≤ 9223372036854775807) (hb : b.length ≤ 10000) (h : fitsOf v b ≠ 0) : Ev (fun k => feature_Quantize.f k v b) ([], fitsOf v b) := by
  obtain ⟨K1, e1⟩ := fits_ev v b hv hb
  refine ⟨K1, fun k hk => ?_⟩
  have e1 := e1 k (by omega)
  dsimp only at e1 ⊢
  unfold feature_Quantize.f
  rw [e1, Option.bind_some, if_neg h]
theorem Cost_ok (v b : List (List Int)) (h : fitsOf v b = 0) : Ev (fun k => feature_Cost.f k v b) (costOf v b, 0) := by
  have hf := fits_Fit v b h
  obtain ⟨K1, e1⟩ := fits_ev v b (by have := hf.v1; omega) (by have := hf.b1; omega)
  obtain ⟨K2, e2⟩ := Cost_go hf
  refine ⟨K1 + K2, fun k hk => ?_⟩
  have e1 := e1 k (by omega)
  have e2 := e2 k (by omega)
  dsimp only at e1 e2 ⊢
  unfold feature_Cost.f
  rw [e1, Option.bind_some, if_pos h]
  exact e2
theorem Cost_bad (v b : List (List Int)) (hv : v.length ≤ 9223372036854775807) (hb : b.length ≤ 10000) (h : fitsOf v b ≠ 0) : Ev (fun k => feature_Cost.f k v b) (0, fitsOf v b) := by
  obtain ⟨K1, e1⟩ := fits_ev v b hv hb
  refine ⟨K1, fun k hk => ?_⟩
  have e1 := e1 k (by omega)
  dsimp only at e1 ⊢
  unfold feature_Cost.f
  rw [e1, Option.bind_some, if_neg h]
/-- The vectors whose nearest codeword is number j. -/
def own (v b : List (List Int)) (j : Int) : List (List Int) := v.filter fun x => decide ((near x b).1 = j)
def impAt (v b : List (List Int)) (j : Nat) : List Int := if own v b (j : Int) = [] then b.getD j [] else meanOf (own v b (j : Int))
/-- The improved codebook. -/
def impOf (v b : List (List Int)) : List (List Int) := (List.range b.length).map (impAt v b)
theorem group_map (f : List Int → Int) (v : List (List Int)) (j : Int) : group v (v.map f) j = v.filter fun x => decide (f x = j) := by
  unfold group
  induction v with
  | nil => rfl
  | cons x xs ih =>
    simp only [List.map_cons, List.zip_cons_cons, List.filter_cons]
    by_cases h : f x = j
    · simp only [h, decide_true, if_true, List.map_cons]
      rw [← h] at ih ⊢
      rw [ih]
    · simp only [h, decide_false, if_false, Bool.false_eq_true]
      exact ih
theorem impOf_length (v b : List (List Int)) : (impOf v b).length = b.length := by simp [impOf]
theorem own_mem (v b : List (List Int)) (j : Int) : ∀ x ∈ own v b j, x ∈ v := fun x hx => (List.mem_filter.1 hx).1
theorem own_length (v b : List (List Int)) (j : Int) : (own v b j).length ≤ v.length := List.length_filter_le _ _
theorem getD_vec {c : Nat} (b : List (List Int)) (h : ∀ x ∈ b, Vec c x) (j : Nat) (hj : j < b.length) : Vec c (b.getD j []) := by
  rw [List.getD_eq_getElem?_getD, List.getElem?_eq_getElem hj]
  exact h _ (List.getElem_mem hj)
theorem mean_vec {c : Nat} (g : List (List Int)) (hg : ∀ x ∈ g, Vec c x) (h1 : 1 ≤ g.length) (h2 : g.length ≤ 20000) : Vec c (meanOf g) := by
  have h0 := getD_vec g hg 0 (by omega)
  refine ⟨by rw [show (meanOf g).length = (g.getD 0 []).length by simp [meanOf]]; exact h0.1, h0.2.1, h0.2.2.1, fun y hy => ?_⟩
  obtain ⟨i, hi, rfl⟩ := List.mem_map.1 hy
  have hb := col_bound g c h1 h2 (fun x hx => (hg x hx).1) h0.2.2.1 (fun x hx => (hg x hx).2.2.2) i g.length
  rw [List.take_length] at hb
  exact rnd_abs_le _ _ 1048576 (by omega) (by omega) (by omega)
section
variable {c : Nat} {v b : List (List Int)} (hf : Fit c v b)
include hf
theorem imp_vec (j : Nat) (hj : j < b.length) : Vec c (impAt v b j) := by
  unfold impAt
  by_cases h : own v b (j : Int) = []
  · rw [if_pos h]; exact getD_vec b hf.bb j hj
  · rw [if_neg h]
    have := own_length v b (j : Int)
    have := hf.v1
    exact mean_vec _ (fun x hx => hf.vv x (own_mem v b _ x hx)) (List.length_pos_iff.2 h) (by omega)
theorem imp_Fit : Fit c v (impOf v b) := by
  refine ⟨hf.v1, by rw [impOf_length]; exact hf.b0, by rw [impOf_length]; exact hf.b1, hf.vv, fun x hx => ?_⟩
  obtain ⟨j, hj, rfl⟩ := List.mem_map.1 hx
  exact imp_vec hf j (List.mem_range.1 hj)
theorem own_mean_ev (j : Int) (h : own v b j ≠ []) : Ev (fun k => feature_mean.f k (own v b j)) (meanOf (own v b j)) := by
  have h0 := getD_vec b hf.bb 0 (by have := hf.b0; omega)
  have := own_length v b j
  have := hf.v1
  exact mean_ev _ c (List.length_pos_iff.2 h) (by omega) (fun x hx => (hf.vv x (own_mem v b _ x hx)).1) h0.2.2.1 (fun x hx => (hf.vv x (own_mem v b _ x hx)).2.2.2)
theorem nears_ev : ∀ xs : List (List Int), (∀ x ∈ xs, Vec c x) → Ev (fun k => nears k b xs) (xs.map fun x => (near x b).1) := by
  intro xs
  induction xs with
  | nil => intro _; exact Ev.now _
  | cons x xs ih =>
    intro h
    obtain ⟨K1, e1⟩ := nearest_ev (h x List.mem_cons_self) hf.bb (by have := hf.b1; omega)
    obtain ⟨K2, e2⟩ := ih (fun y hy => h y (List.mem_cons_of_mem _ hy))
    refine ⟨K1 + K2, fun k hk => ?_⟩
    have e1 := e1 k (by omega)
    have e2 := e2 k (by omega)
    dsimp only at e1 e2 ⊢
    simp only [nears]
    rw [e1, Option.bind_some, e2]
    rfl
theorem improvedAt_ev : ∀ (d j : Nat), j + d = b.length → Ev (fun k => improvedAt k v (quant v b) (b.drop j) (j : Int)) (((List.range b.length).drop j).map (impAt v b)) := by
  intro d
  induction d with
  | zero =>
    intro j hj
    rw [List.drop_of_length_le (by omega), List.drop_of_length_le (by simp; omega)]
    exact Ev.now _
  | succ d ih =>
    intro j hj
    have hjb : j < b.length := by omega
    rw [drop_cons b j hjb, drop_cons (List.range b.length) j (by simpa using hjb), List.getElem_range, List.map_cons]
    have hg : group v (quant v b) (j : Int) = own v b (j : Int) := group_map _ v _
    have hb : b.getD j [] = b[j] := by rw [List.getD_eq_getElem?_getD, List.getElem?_eq_getElem hjb]; rfl
    obtain ⟨K2, e2⟩ := ih (j + 1) (by omega)
    by_cases h : own v b (j : Int) = []
    · refine ⟨K2, fun k hk => ?_⟩
      have e2 := e2 k (by omega)
      dsimp only at e2 ⊢
      simp only [improvedAt]
      rw [hg, if_pos h, Option.bind_some, show (j : Int) + 1 = ((j + 1 : Nat) : Int) by omega, e2, Option.bind_some]
      unfold impAt
      rw [if_pos h, hb]
    · obtain ⟨K1, e1⟩ := own_mean_ev hf (j : Int) h
      refine ⟨K1 + K2, fun k hk => ?_⟩
      have e1 := e1 k (by omega)
      have e2 := e2 k (by omega)
      dsimp only at e1 e2 ⊢
      simp only [improvedAt]
      rw [hg, if_neg h, e1, Option.bind_some, show (j : Int) + 1 = ((j + 1 : Nat) : Int) by omega, e2, Option.bind_some]
      unfold impAt
      rw [if_neg h]
theorem improved_ev : Ev (fun k => feature_improved.f k v b) (impOf v b) := by
  obtain ⟨K1, e1⟩ := nears_ev hf v hf.vv
  obtain ⟨K2, e2⟩ := improvedAt_ev hf b.length 0 (by omega)
  refine ⟨K1 + K2, fun k hk => ?_⟩
  have e1 := e1 k (by omega)
  have e2 := e2 k (by omega)
  dsimp only at e1 e2 ⊢
  unfold feature_improved.f
  have h1 := hf.v1
  have h2 := hf.b1
  rw [if_pos ⟨by omega, by omega, fun x hx => by have := (hf.bb x hx).1; have := (hf.bb x hx).2.2.1; omega⟩, e1, Option.bind_some, if_pos (fun i hi => by
    obtain ⟨x, hx, rfl⟩ := List.mem_map.1 hi
    have := near_ok (hf.vv x hx) hf.bb hf.b0
    exact ⟨this.1, this.2.1⟩)]
  exact e2
end
theorem Improve_ok (v b : List (List Int)) (h : fitsOf v b = 0) : Ev (fun k => feature_Improve.f k v b) (impOf v b, 0) := by
  have hf := fits_Fit v b h
  obtain ⟨K1, e1⟩ := fits_ev v b (by have := hf.v1; omega) (by have := hf.b1; omega)
  obtain ⟨K2, e2⟩ := improved_ev hf
  refine ⟨K1 + K2, fun k hk => ?_⟩
  have e1 := e1 k (by omega)
  have e2 := e2 k (by omega)
  dsimp only at e1 e2 ⊢
  unfold feature_Improve.f
  rw [e1, Option.bind_some, if_pos h, e2]
  rfl
theorem Improve_bad (v b : List (List Int)) (hv : v.length ≤ 9223372036854775807) (hb : b.length ≤ 10000) (h : fitsOf v b ≠ 0) : Ev (fun k => feature_Improve.f k v b) ([], fitsOf v b) := by
  obtain ⟨K1, e1⟩ := fits_ev v b hv hb
  refine ⟨K1, fun k hk => ?_⟩
  have e1 := e1 k (by omega)
  dsimp only at e1 ⊢
  unfold feature_Improve.f
  rw [e1, Option.bind_some, if_neg h]
/-- Training: d rounds more from a codebook on, behind n rounds. -/
def trainTo (v : List (List Int)) : Nat → List (List Int) → Nat → List (List Int) × Int
  | 0, b, n => (b, (n : Int))
  | d + 1, b, n => if impOf v b = b then (b, (n : Int)) else trainTo v d (impOf v b) (n + 1)
theorem equal_dec (l m : List Int) (hl : l.length ≤ 4611686018427387904) : Ev (fun k => slices_Equal_int_int.f k l m) (decide (l = m)) := by
  by_cases hlen : l.length = m.length
  · have h1 := up (fun j k => slices_Equal_int_int.l0 k l m (l.length : Int) (j : Int)) (fun j => decide (l.drop j = m.drop j)) l.length (by
        refine Ev.step (f := fun _ => some true) (fun k => ?_) (by rw [List.drop_length, hlen, List.drop_length]; simpa using Ev.now true)
        simp only [slices_Equal_int_int.l0]
        rw [if_neg (by omega)]) (by
        rintro j hj ⟨K, ih⟩
        refine ⟨K + 1, fun k hk => ?_⟩
        obtain ⟨q, rfl⟩ : ∃ q, k = q + 1 := ⟨k - 1, by omega⟩
        have ih := ih q (by omega)
        simp only [slices_Equal_int_int.l0]
        have hjm : j < m.length := by omega
        rw [if_pos (by omega), if_pos (by omega), if_pos (by omega), if_pos (by omega), w64 (n := (j : Int) + 1) (by omega) (by omega), drop_cons l j hj, drop_cons m j hjm, rd_lt l j hj, rd_lt m j hjm]
        by_cases e : l[j] = m[j]
        · rw [if_pos e]
          refine Eq.trans ih ?_
          rw [e]
          simp only [List.cons.injEq, true_and]
        · rw [if_neg e]
          simp only [List.cons.injEq, e, false_and, decide_false]) 0 (by omega)
    refine Ev.congr (fun k => ?_) h1
    unfold slices_Equal_int_int.f
    rw [if_pos (by omega)]
    rfl
  · rw [decide_eq_false (by rintro rfl; exact hlen rfl)]
    refine Ev.congr (fun k => ?_) (Ev.now _)
    unfold slices_Equal_int_int.f
    rw [if_neg (by omega)]
theorem listsEqual_dec (l m : List (List Int)) (hl : l.length ≤ 4611686018427387904) (hr : ∀ x ∈ l, x.length ≤ 4611686018427387904) : Ev (fun k => lists_equal.f k l m) (decide (l = m)) := by
  by_cases hlen : l.length = m.length
  · have h1 := up (fun j k => lists_equal.l0 k m l (l.length : Int) (j : Int)) (fun j => decide (l.drop j = m.drop j)) l.length (by
        refine Ev.step (f := fun _ => some true) (fun k => ?_) (by rw [List.drop_length, hlen, List.drop_length]; simpa using Ev.now true)
        simp only [lists_equal.l0]
        rw [if_neg (by omega)]) (by
        rintro j hj ⟨K, ih⟩
        have hjm : j < m.length := by omega
        obtain ⟨K2, hs⟩ := equal_dec l[j] m[j] (hr _ (List.getElem_mem hj))
        refine ⟨K + K2 + 1, fun k hk => ?_⟩
        obtain ⟨q, rfl⟩ : ∃ q, k = q + 1 := ⟨k - 1, by omega⟩
        have ih := ih q (by omega)
        have hs := hs q (by omega)
        dsimp only at hs
        simp only [lists_equal.l0]
        rw [if_pos (by omega), if_pos (by omega), if_pos (by omega), if_pos (by omega), w64 (n := (j : Int) + 1) (by omega) (by omega), drop_cons l j hj, drop_cons m j hjm, rd2_lt l j hj, rd2_lt m j hjm, hs, Option.bind_some]
        by_cases e : l[j] = m[j]
        · rw [if_pos (by simpa using e)]
          refine Eq.trans ih ?_
          rw [e]
          simp only [List.cons.injEq, true_and]
        · rw [if_neg (by simpa using e)]
          simp only [List.cons.injEq, e, false_and, decide_false]) 0 (by omega)
    refine Ev.congr (fun k => ?_) h1
    unfold lists_equal.f
    rw [if_pos (by omega)]
    rfl
  · rw [decide_eq_false (by rintro rfl; exact hlen rfl)]
    refine Ev.congr (fun k => ?_) (Ev.now _)
    unfold lists_equal.f
    rw [if_neg (by omega)]
theorem vec_len {c : Nat} {x : List Int} (h : Vec c x) : x.length ≤ 64 := by have := h.1; have := h.2.2.1; omega
theorem train_go {c : Nat} {v : List (List Int)} (r : Nat) (hr : r ≤ 1001) : ∀ (d n : Nat) (b : List (List Int)), Fit c v b → n + d = r → Ev (fun k => feature_Train.l0 k v (r : Int) b (r : Int) (n : Int)) ((trainTo v d b n).1, (trainTo v d b n).2, 0) := by
  intro d
  induction d with
  | zero =>
    intro n b hf hn
    refine Ev.step (f := fun _ => some (b, (n : Int), 0)) (fun k => ?_) (Ev.now _)
    simp only [feature_Train.l0]
    rw [if_neg (by omega), show r = n by omega]
  | succ d ih =>
    intro n b hf hn
    obtain ⟨K1, e1⟩ := improved_ev hf
    have hf2 := imp_Fit hf
    obtain ⟨K2, e2⟩ := listsEqual_dec (impOf v b) b (by have := hf2.b1; omega) (fun x hx => by have := vec_len (hf2.bb x hx); omega)
    obtain ⟨K3, e3⟩ := ih (n + 1) (impOf v b) hf2 (by omega)
    refine ⟨K1 + K2 + K3 + 1, fun k hk => ?_⟩
    obtain ⟨m, rfl⟩ : ∃ m, k = m + 1 := ⟨k - 1, by omega⟩
    have e1 := e1 m (by omega)
    have e2 := e2 m (by omega)
    have e3 := e3 m (by omega)
    dsimp only at e1 e2 e3 ⊢
    simp only [feature_Train.l0, trainTo]
    rw [if_pos (by omega), e1, Option.bind_some, e2, Option.bind_some, w64 (n := (n : Int) + 1) (by omega) (by omega)]
    by_cases h : impOf v b = b
    · rw [if_pos (by simpa using h), if_pos h]
    · rw [if_neg (by simpa using h), if_neg h]
      exact e3
theorem Train_ok (v b : List (List Int)) (r : Nat) (hr : r ≤ 1000) (h : fitsOf v b = 0) : Ev (fun k => feature_Train.f k v b (r : Int)) ((trainTo v r b 0).1, (trainTo v r b 0).2, 0) := by
  have hf := fits_Fit v b h
  obtain ⟨K1, e1⟩ := fits_ev v b (by have := hf.v1; omega) (by have := hf.b1; omega)
  obtain ⟨K2, e2⟩ := train_go r (by omega) r 0 b hf (by omega)
  refine ⟨K1 + K2 + 1, fun k hk => ?_⟩
  obtain ⟨m, rfl⟩ : ∃ m, k = m + 1 := ⟨k - 1, by omega⟩
  have e1 := e1 (m + 1) (by omega)
  have e2 := e2 m (by omega)
  dsimp only at e1 e2 ⊢
  unfold feature_Train.f
  rw [e1, Option.bind_some, if_pos h, if_neg (by omega), decide_eq_false (by omega)]
  simp only [feature_Train.j0]
  unfold feature_copied.f
  rw [if_neg (by simp), if_pos ⟨by have := hf.b1; omega, fun x hx => by have := vec_len (hf.bb x hx); omega⟩, Option.bind_some]
  exact e2
theorem Train_bad (v b : List (List Int)) (a : Int) (hv : v.length ≤ 9223372036854775807) (hb : b.length ≤ 10000) (h : fitsOf v b ≠ 0) : Ev (fun k => feature_Train.f k v b a) ([], 0, fitsOf v b) := by
  obtain ⟨K1, e1⟩ := fits_ev v b hv hb
  refine ⟨K1, fun k hk => ?_⟩
  have e1 := e1 k (by omega)
  dsimp only at e1 ⊢
  unfold feature_Train.f
  rw [e1, Option.bind_some, if_neg h]
theorem Train_range (v b : List (List Int)) (a : Int) (ha : a < 0 ∨ a > 1000) (h : fitsOf v b = 0) : Ev (fun k => feature_Train.f k v b a) ([], 0, 2) := by
  have hf := fits_Fit v b h
  obtain ⟨K1, e1⟩ := fits_ev v b (by have := hf.v1; omega) (by have := hf.b1; omega)
  refine ⟨K1 + 1, fun k hk => ?_⟩
  obtain ⟨m, rfl⟩ : ∃ m, k = m + 1 := ⟨k - 1, by omega⟩
  have e1 := e1 (m + 1) (by omega)
  dsimp only at e1 ⊢
  have hj : feature_Train.j0 (m + 1) v b a true = some ([], 0, 2) := by simp only [feature_Train.j0]; rfl
  unfold feature_Train.f
  rw [e1, Option.bind_some, if_pos h]
  by_cases h0 : a < 0
  · rw [if_pos h0]; exact hj
  · rw [if_neg h0, decide_eq_true (by omega)]; exact hj
theorem trainTo_Fit {c : Nat} {v : List (List Int)} : ∀ (d n : Nat) (b : List (List Int)), Fit c v b → Fit c v (trainTo v d b n).1 := by
  intro d
  induction d with
  | zero => intro n b hf; exact hf
  | succ d ih =>
    intro n b hf
    simp only [trainTo]
    by_cases h : impOf v b = b
    · rw [if_pos h]; exact hf
    · rw [if_neg h]; exact ih _ _ (imp_Fit hf)
end Go.Proofs.YtdlbmbijobcljaaDoor.Pure

namespace Go.Proofs.YtdlbmbijobcljaaDoor.Pure
open Go.RowKit Go.Proofs.YtdlbmbijobcljaaDoor.X Go.Proofs.YtdlbmbijobcljaaDoorW.PrintWords Go.Proofs.YtdlbmbijobcljaaDoorW.PrintLast
theorem known_ev : Ev (fun k => earshotlaw03_known.f k) true := Ev.of (k := 2000) earshotlaw03_known.mono (by decide +kernel)
end Go.Proofs.YtdlbmbijobcljaaDoor.Pure

namespace Go.Proofs.YtdlbmbijobcljaaDoor.Pure
open Go.RowKit Go.Proofs.YtdlbmbijobcljaaDoor.X Go.Proofs.YtdlbmbijobcljaaDoorW.PrintWords Go.Proofs.YtdlbmbijobcljaaDoorW.PrintLast Go.Proofs.YtdlbmbijobcljaaDoorW.PrintMore
set_option linter.unusedVariables false
set_option linter.unusedSimpArgs false
set_option linter.unusedSectionVars false
theorem range_snoc2 {α : Type} (f : Nat → α) (j : Nat) : (List.range j).map f ++ [f j] = (List.range (j + 1)).map f := range_map_snoc f j
section
variable {c : Nat} {v b : List (List Int)} (hf : Fit c v b)
include hf
theorem ref_own_mean_ev (j : Int) (h : own v b j ≠ []) : Ev (fun k => earshotref03_mean.f k (own v b j)) (meanOf (own v b j)) := by
  have h0 := getD_vec b hf.bb 0 (by have := hf.b0; omega)
  have := own_length v b j
  have := hf.v1
  exact ref_mean_ev _ c (List.length_pos_iff.2 h) (by omega) (fun x hx => (hf.vv x (own_mem v b _ x hx)).1) h0.2.2.1 (fun x hx => (hf.vv x (own_mem v b _ x hx)).2.2.2)
theorem ref_Improve_ev : Ev (fun k => earshotref03_Improve.f k v b) (impOf v b) := by
  have l1 := hf.v1
  have l2 := hf.b1
  have e0 := up (fun j k => earshotref03_Improve.l0 k v b (quant v b) ((List.range j).map (impAt v b)) (j : Int)) (fun _ => impOf v b) b.length (by
      refine Ev.step (f := fun _ => some (impOf v b)) (fun k => ?_) (Ev.now _)
      simp only [earshotref03_Improve.l0]
      rw [if_neg (by omega)]
      rfl) (by
      intro j hj ih0
      have hbj := getD_vec b hf.bb j hj
      have hin := up (fun t k => earshotref03_Improve.l1 k v b (quant v b) ((List.range j).map (impAt v b)) (j : Int) ((v.take t).filter fun x => decide ((near x b).1 = (j : Int))) (t : Int)) (fun _ => impOf v b) v.length (by
          rw [List.take_length]
          have hown : (v.filter fun x => decide ((near x b).1 = (j : Int))) = own v b (j : Int) := rfl
          rw [hown]
          obtain ⟨K, ih⟩ := ih0
          by_cases h : own v b (j : Int) = []
          · refine ⟨K + 1, fun k hk => ?_⟩
            obtain ⟨m, rfl⟩ : ∃ m, k = m + 1 := ⟨k - 1, by omega⟩
            have ih := ih m (by omega)
            dsimp only at ih ⊢
            have hv1 : impAt v b j = b.getD j [] := by unfold impAt; rw [if_pos h]
            rw [← range_snoc2, hv1] at ih
            simp only [earshotref03_Improve.l1]
            rw [if_neg (by omega), h, if_pos (by simp), if_pos (by omega), if_pos (by omega), rd2_nat, if_pos (by have := vec_len hbj; simp only [List.length_nil]; omega), if_pos (by simp; omega), List.nil_append, w64 (n := (j : Int) + 1) (by omega) (by omega)]
            exact ih
          · obtain ⟨K1, e1⟩ := ref_own_mean_ev hf (j : Int) h
            refine ⟨K + K1 + 1, fun k hk => ?_⟩
            obtain ⟨m, rfl⟩ : ∃ m, k = m + 1 := ⟨k - 1, by omega⟩
            have ih := ih m (by omega)
            have e1 := e1 m (by omega)
            dsimp only at ih e1 ⊢
            have hv1 : impAt v b j = meanOf (own v b (j : Int)) := by unfold impAt; rw [if_neg h]
            rw [← range_snoc2, hv1] at ih
            have hpos := List.length_pos_iff.2 h
            simp only [earshotref03_Improve.l1]
            rw [if_neg (by omega), if_neg (by omega), e1, Option.bind_some, if_pos (by simp; omega), w64 (n := (j : Int) + 1) (by omega) (by omega)]
            exact ih) (by
          rintro t ht ⟨K, ih⟩
          refine ⟨K + 1, fun k hk => ?_⟩
          obtain ⟨m, rfl⟩ : ∃ m, k = m + 1 := ⟨k - 1, by omega⟩
          have ih := ih m (by omega)
          dsimp only at ih ⊢
          have hq : rd (quant v b) (t : Int) = (near v[t] b).1 := by
            rw [rd_lt _ t (by simp [quant]; exact ht)]
            simp [quant]
          have hfl : ((v.take t).filter fun x => decide ((near x b).1 = (j : Int))).length ≤ t := Nat.le_trans (List.length_filter_le _ _) (List.length_take_le _ _)
          rw [List.take_succ_eq_append_getElem ht, List.filter_append] at ih
          simp only [earshotref03_Improve.l1]
          rw [if_pos (by omega), if_pos (by omega), if_pos (by simp [quant]; omega), hq, rd2_lt v t ht, w64 (n := (t : Int) + 1) (by omega) (by omega)]
          by_cases h : (near v[t] b).1 = (j : Int)
          · rw [if_pos h, if_pos (by omega)]
            have e1 : ([v[t]].filter fun x => decide ((near x b).1 = (j : Int))) = [v[t]] := by simp [h]
            rw [e1] at ih
            exact ih
          · rw [if_neg h]
            have e1 : ([v[t]].filter fun x => decide ((near x b).1 = (j : Int))) = [] := by simp [h]
            rw [e1, List.append_nil] at ih
            exact ih) 0 (by omega)
      refine Ev.step (fun k => ?_) hin
      simp only [earshotref03_Improve.l0]
      rw [if_pos (by omega)]
      rfl) 0 (by omega)
  obtain ⟨K1, e1⟩ := ref_Quantize_ev hf
  obtain ⟨K2, e2⟩ := e0
  refine ⟨K1 + K2, fun k hk => ?_⟩
  have e1 := e1 k (by omega)
  have e2 := e2 k (by omega)
  dsimp only at e1 e2 ⊢
  unfold earshotref03_Improve.f
  rw [e1, Option.bind_some]
  exact e2
theorem train_copy (n : Int) : Ev (fun k => earshotref03_Train.j1 k b n) (b, n) := by
  have l2 := hf.b1
  have e := up (fun j k => earshotref03_Train.l1 k b n (b.take j) (j : Int)) (fun _ => (b, n)) b.length (by
      refine Ev.step (f := fun _ => some (b, n)) (fun k => ?_) (Ev.now _)
      simp only [earshotref03_Train.l1]
      rw [if_neg (by omega), List.take_length]) (by
      rintro j hj ⟨K, ih⟩
      refine ⟨K + 1, fun k hk => ?_⟩
      obtain ⟨m, rfl⟩ : ∃ m, k = m + 1 := ⟨k - 1, by omega⟩
      have ih := ih m (by omega)
      dsimp only at ih ⊢
      have hx := vec_len (hf.bb _ (List.getElem_mem hj))
      simp only [earshotref03_Train.l1]
      rw [if_pos (by omega), if_pos (by omega), rd2_lt b j hj, if_pos (by simp only [List.length_nil]; omega), if_pos (by rw [List.length_take]; omega), List.nil_append, w64 (n := (j : Int) + 1) (by omega) (by omega)]
      rw [List.take_succ_eq_append_getElem hj] at ih
      exact ih) 0 (by omega)
  refine Ev.step (fun k => ?_) e
  simp only [earshotref03_Train.j1]
  rfl
end
theorem ref_train_go {c : Nat} {v : List (List Int)} (r : Nat) (hr : r ≤ 1001) : ∀ (d n : Nat) (b : List (List Int)), Fit c v b → n + d = r → Ev (fun k => earshotref03_Train.l0 k v b (r : Int) (n : Int)) (trainTo v d b n) := by
  intro d
  induction d with
  | zero =>
    intro n b hf hn
    refine Ev.step (fun k => ?_) (train_copy hf (n : Int))
    simp only [earshotref03_Train.l0]
    rw [if_neg (by omega)]
  | succ d ih =>
    intro n b hf hn
    obtain ⟨K1, e1⟩ := ref_Improve_ev hf
    have hf2 := imp_Fit hf
    obtain ⟨K2, e2⟩ := sameLists_dec (impOf v b) b (by have := hf2.b1; omega) (fun x hx => by have := vec_len (hf2.bb x hx); omega)
    obtain ⟨K3, e3⟩ := ih (n + 1) (impOf v b) hf2 (by omega)
    obtain ⟨K4, e4⟩ := train_copy hf (n : Int)
    refine ⟨K1 + K2 + K3 + K4 + 1, fun k hk => ?_⟩
    obtain ⟨m, rfl⟩ : ∃ m, k = m + 1 := ⟨k - 1, by omega⟩
    have e1 := e1 m (by omega)
    have e2 := e2 m (by omega)
    have e3 := e3 m (by omega)
    have e4 := e4 m (by omega)
    dsimp only at e1 e2 e3 e4 ⊢
    simp only [earshotref03_Train.l0, trainTo]
    rw [if_pos (by omega), e1, Option.bind_some, e2, Option.bind_some, w64 (n := (n : Int) + 1) (by omega) (by omega)]
    by_cases h : impOf v b = b
    · rw [if_pos (by simpa using h), if_pos h]
      exact e4
    · rw [if_neg (by simpa using h), if_neg h]
      exact e3
theorem ref_Train_ev {c : Nat} {v b : List (List Int)} (hf : Fit c v b) (r : Nat) (hr : r ≤ 1000) : Ev (fun k => earshotref03_Train.f k v b (r : Int)) (trainTo v r b 0) := ref_train_go r (by omega) r 0 b hf (by omega)
theorem improves_known (v b : List (List Int)) (a : Int) : Ev (fun k => earshotlaw03_FeatureImproves.j0 k v b a true) true := by
  obtain ⟨K, e⟩ := known_ev
  refine ⟨K + 1, fun k hk => ?_⟩
  obtain ⟨m, rfl⟩ : ∃ m, k = m + 1 := ⟨k - 1, by omega⟩
  have e := e m (by omega)
  dsimp only at e ⊢
  simp only [earshotlaw03_FeatureImproves.j0]
  rw [if_pos trivial, e]
  rfl
theorem improves_j1 (v b : List (List Int)) (a : Int) (hf : fitsOf v b = 0) : ∃ R : List (List Int) × Int × Int, Ev (fun k => feature_Train.f k v b a) R ∧ Ev (fun k => earshotlaw03_FeatureImproves.j1 k v b a R.1 R.2.1 R.2.2 false) true := by
  obtain ⟨K0, e0⟩ := known_ev
  have hF := fits_Fit v b hf
  by_cases ha : a < 0 ∨ a > 1000
  · refine ⟨([], 0, 2), Train_range v b a ha hf, K0 + 2, fun k hk => ?_⟩
    obtain ⟨m, rfl⟩ : ∃ m, k = m + 1 + 1 := ⟨k - 2, by omega⟩
    have e0 := e0 m (by omega)
    dsimp only at e0 ⊢
    have hj : earshotlaw03_FeatureImproves.j2 (m + 1) v b a [] 0 2 true = some true := by
      simp only [earshotlaw03_FeatureImproves.j2]
      rw [if_pos trivial, if_pos trivial, if_pos (by simp), if_pos trivial, e0]
      rfl
    simp only [earshotlaw03_FeatureImproves.j1]
    rw [if_neg (by simp)]
    by_cases h0 : a < 0
    · rw [if_pos h0]; exact hj
    · rw [if_neg h0, decide_eq_true (by omega)]; exact hj
  · obtain ⟨r, rfl⟩ : ∃ r : Nat, a = (r : Int) := ⟨a.toNat, by omega⟩
    have hT := trainTo_Fit r 0 b hF
    obtain ⟨K1, e1⟩ := ref_Train_ev hF r (by omega)
    obtain ⟨K2, e2⟩ := sameLists_dec (trainTo v r b 0).1 (trainTo v r b 0).1 (by have := hT.b1; omega) (fun x hx => by have := vec_len (hT.bb x hx); omega)
    refine ⟨((trainTo v r b 0).1, (trainTo v r b 0).2, 0), Train_ok v b r (by omega) hf, K0 + K1 + K2 + 2, fun k hk => ?_⟩
    obtain ⟨m, rfl⟩ : ∃ m, k = m + 1 + 1 := ⟨k - 2, by omega⟩
    have e0 := e0 m (by omega)
    have e1 := e1 m (by omega)
    have e2 := e2 m (by omega)
    dsimp only at e0 e1 e2 ⊢
    rw [decide_eq_true rfl] at e2
    simp only [earshotlaw03_FeatureImproves.j1]
    rw [if_neg (by simp), if_neg (by omega), decide_eq_false (by omega)]
    simp only [earshotlaw03_FeatureImproves.j2]
    rw [if_neg (by simp), e1, Option.bind_some, if_pos trivial, if_pos rfl, e2, Option.bind_some, if_pos rfl, e0]
    rfl
theorem improves_go (v b : List (List Int)) (a : Int) (hv : v.length ≤ 9223372036854775807) (hb : b.length ≤ 10000) : Ev (fun k => earshotlaw03_FeatureImproves.j0 k v b a false) true := by
  obtain ⟨K0, e0⟩ := known_ev
  obtain ⟨K1, e1⟩ := Fits_ev v b hv
  by_cases h : fitsOf v b = 0
  · have hf := fits_Fit v b h
    have hfi := imp_Fit hf
    obtain ⟨K2, e2⟩ := Improve_ok v b h
    obtain ⟨R, ⟨K3, e3⟩, ⟨K4, e4⟩⟩ := improves_j1 v b a h
    obtain ⟨K5, e5⟩ := ref_Improve_ev hf
    obtain ⟨K6, e6⟩ := sameLists_dec (impOf v b) (impOf v b) (by have := hfi.b1; omega) (fun x hx => by have := vec_len (hfi.bb x hx); omega)
    refine ⟨K0 + K1 + K2 + K3 + K4 + K5 + K6 + 1, fun k hk => ?_⟩
    obtain ⟨m, rfl⟩ : ∃ m, k = m + 1 := ⟨k - 1, by omega⟩
    have e1 := e1 m (by omega)
    have e2 := e2 m (by omega)
    have e3 := e3 m (by omega)
    have e4 := e4 m (by omega)
    have e5 := e5 m (by omega)
    have e6 := e6 m (by omega)
    dsimp only at e1 e2 e3 e4 e5 e6 ⊢
    rw [decide_eq_true rfl] at e6
    simp only [earshotlaw03_FeatureImproves.j0]
    rw [if_neg (by simp), e2, Option.bind_some, e3, Option.bind_some, e1, Option.bind_some, if_pos h, if_pos rfl, e5, Option.bind_some, e6, Option.bind_some]
    exact e4
  · obtain ⟨K2, e2⟩ := Improve_bad v b hv hb h
    obtain ⟨K3, e3⟩ := Train_bad v b a hv hb h
    refine ⟨K0 + K1 + K2 + K3 + 1, fun k hk => ?_⟩
    obtain ⟨m, rfl⟩ : ∃ m, k = m + 1 := ⟨k - 1, by omega⟩
    have e0 := e0 m (by omega)
    have e1 := e1 m (by omega)
    have e2 := e2 m (by omega)
    have e3 := e3 m (by omega)
    dsimp only at e0 e1 e2 e3 ⊢
    simp only [earshotlaw03_FeatureImproves.j0]
    rw [if_neg (by simp), e2, Option.bind_some, e3, Option.bind_some, e1, Option.bind_some, if_neg h, if_pos rfl, if_pos rfl, if_pos (by simp), if_pos (by simp), if_pos rfl, e0]
    rfl
theorem improves_ev (v b : List (List Int)) (hv : v.length ≤ 9223372036854775807) (hb : b.length ≤ 9223372036854775807) (a : Int) : Ev (fun k => earshotlaw03_FeatureImproves.f k v b a) true := by
  obtain ⟨K0, e0⟩ := few_ev v 30 (by omega) hv
  obtain ⟨K1, e1⟩ := few_ev b 12 (by omega) hb
  have c30 : (30 : Int) = ((30 : Nat) : Int) := rfl
  have c12 : (12 : Int) = ((12 : Nat) : Int) := rfl
  have main : ∃ x : Bool, Ev (fun k => earshotlaw03_FeatureImproves.j0 k v b a x) true ∧ ∀ k, (if fewOf v 30 = true then (if fewOf b 12 = true then (if (b.length : Int) > 12 then (earshotlaw03_FeatureImproves.j0 k v b a true) else (if a > 20 then (earshotlaw03_FeatureImproves.j0 k v b a (decide (a ≤ 1000))) else (earshotlaw03_FeatureImproves.j0 k v b a false))) else (earshotlaw03_FeatureImproves.j0 k v b a true)) else (earshotlaw03_FeatureImproves.j0 k v b a true)) = earshotlaw03_FeatureImproves.j0 k v b a x := by
    cases h0 : fewOf v 30 with
    | false => exact ⟨true, improves_known v b a, fun k => by rw [if_neg (by simp)]⟩
    | true =>
      cases h1 : fewOf b 12 with
      | false => exact ⟨true, improves_known v b a, fun k => by rw [if_pos rfl, if_neg (by simp)]⟩
      | true =>
        by_cases h2 : (b.length : Int) > 12
        · exact ⟨true, improves_known v b a, fun k => by rw [if_pos rfl, if_pos rfl, if_pos h2]⟩
        · by_cases h3 : a > 20
          · by_cases h4 : a ≤ 1000
            · exact ⟨true, improves_known v b a, fun k => by rw [if_pos rfl, if_pos rfl, if_neg h2, if_pos h3, decide_eq_true h4]⟩
            · exact ⟨false, improves_go v b a hv (by omega), fun k => by rw [if_pos rfl, if_pos rfl, if_neg h2, if_pos h3, decide_eq_false h4]⟩
          · exact ⟨false, improves_go v b a hv (by omega), fun k => by rw [if_pos rfl, if_pos rfl, if_neg h2, if_neg h3]⟩
  obtain ⟨x, ⟨K3, e3⟩, hx⟩ := main
  by_cases h0 : fewOf v 30 = true
  · refine ⟨K0 + K1 + K3, fun k hk => ?_⟩
    have e0 := e0 k (by omega)
    have e1 := e1 k (by omega)
    have e3 := e3 k (by omega)
    dsimp only at e0 e1 e3 ⊢
    have hx := hx k
    unfold earshotlaw03_FeatureImproves.f
    rw [c30, e0, Option.bind_some]
    rw [if_pos h0] at hx ⊢
    rw [c12, e1, Option.bind_some, ← c12, hx]
    exact e3
  · refine ⟨K0 + K1 + K3, fun k hk => ?_⟩
    have e0 := e0 k (by omega)
    have e3 := e3 k (by omega)
    dsimp only at e0 e3 ⊢
    have hx := hx k
    unfold earshotlaw03_FeatureImproves.f
    rw [c30, e0, Option.bind_some]
    rw [if_neg h0] at hx ⊢
    rw [hx]
    exact e3
theorem FeatureImproves (v : List (List Int)) (hv : v.length ≤ 9223372036854775807) (b : List (List Int)) (hb : b.length ≤ 9223372036854775807) (a : Int) (ha : (Lit.int .i64 a).wf = true) : ∃ k, earshotlaw03_FeatureImproves.f k v b a = some true := (improves_ev v b hv hb a).rounds
end Go.Proofs.YtdlbmbijobcljaaDoor.Pure

/-! What an argument that reads as a slice of numbers, or of slices of numbers, gives the walks. -/
namespace Go.Proofs.YtdlbmbijobcljaaDoor
open Go Go.ChangeShapes Go.WideShapes Go.Deep Go.RowKit Go.Proofs.YtdlbmbijobcljaaDoorW.PrintWords
theorem cells3 : Tryd.prog.cellsOf 3 = 1 := by kernel_rfl
theorem cells22 : Tryd.prog.cellsOf 22 = 1 := by kernel_rfl
theorem ints_of_trod {H : Type} {enc : TypeId × Value → H} {W : World} {base : Nat} {held : Bool} {a : Option Addr} {len cap : Nat} {d : DataW H} {ps : List MemPlace}
    (h : DataW.Trod enc Tryd.prog W base (fun _ => true) held 22 (.slice a len cap) d ps) : ∃ z : List Int, z.length = len ∧ len ≤ cap ∧ len ≤ 9223372036854775807 ∧ Kd.C (Kd.int .i64) W a len z ∧ ∀ n ∈ z, (Lit.int .i64 n).wf = true := by
  obtain ⟨fuel, hf⟩ := h
  rcases open_ints Tryd.underlying22 Tryd.underlying3 cells3 hf with ⟨hcs, _⟩ | ⟨x, l, c, zs, hcs, _, hl, hm, hz, _, hcell, hwz⟩
  · simp [Value.cells] at hcs
    obtain ⟨rfl, rfl, rfl⟩ := hcs
    exact ⟨[], rfl, Nat.le_refl _, by omega, ⟨rfl, by omega, fun hn => absurd hn (by omega)⟩, by simp⟩
  · simp [Value.cells] at hcs
    obtain ⟨rfl, rfl, rfl⟩ := hcs
    simp only [if_true] at hz
    unfold maxLen at hm
    have h63 : (2 : Nat) ^ 63 - 1 = 9223372036854775807 := by decide
    rw [h63] at hm
    refine ⟨zs.take len, by rw [List.length_take]; omega, hl, by omega, ⟨by rw [List.length_take]; omega, by omega, fun hn => ⟨x, rfl, fun j p hj => ⟨[.int .i64 p], rfl, rfl, fun i u hu => ?_⟩⟩⟩, fun n hn => hwz n (List.mem_of_mem_take hn)⟩
    obtain ⟨hj1, hj2⟩ := List.getElem?_eq_some_iff.1 hj
    rw [List.length_take] at hj1
    have hi : i = 0 := by
      have := (List.getElem?_eq_some_iff.1 hu).1
      simp at this
      exact this
    subst hi
    have hu2 : u = .int .i64 p := by simpa using hu.symm
    subst hu2
    have h3 := hcell j (by omega)
    rw [List.getElem_take] at hj2
    rw [List.getD_eq_getElem?_getD, List.getElem?_eq_getElem (by omega), Option.getD_some, hj2] at h3
    have hsz : (Kd.int .i64).sz = 1 := rfl
    rw [hsz, Nat.mul_one, Nat.add_zero]
    exact h3
theorem rows_of_trod {H : Type} {enc : TypeId × Value → H} {W : World} {base : Nat} {held : Bool} {a : Option Addr} {len cap : Nat} {d : DataW H} {ps : List MemPlace}
    (h : DataW.Trod enc Tryd.prog W base (fun _ => true) held 42 (.slice a len cap) d ps) : ∃ z : List (List Int), z.length = len ∧ len ≤ cap ∧ len ≤ 9223372036854775807 ∧ Kd.C (Kd.slice 3 (Kd.int .i64)) W a len z ∧ ∀ x ∈ z, ∀ n ∈ x, (Lit.int .i64 n).wf = true := by
  obtain ⟨fuel, hf⟩ := h
  have h63 : (2 : Nat) ^ 63 - 1 = 9223372036854775807 := by decide
  rcases open_int_rows Tryd.underlying42 Tryd.underlying22 Tryd.underlying3 cells22 cells3 hf with ⟨hcs, _⟩ | ⟨x, l, c, A, L, C, Z, hcs, _, hl, hm, _, hr⟩
  · simp [Value.cells] at hcs
    obtain ⟨rfl, rfl, rfl⟩ := hcs
    exact ⟨[], rfl, Nat.le_refl _, by omega, ⟨rfl, by omega, fun hn => absurd hn (by omega)⟩, by simp⟩
  · simp [Value.cells] at hcs
    obtain ⟨rfl, rfl, rfl⟩ := hcs
    unfold maxLen at hm hr
    rw [h63] at hm hr
    refine ⟨(List.range len).map fun r => (Z r).take (L r), by simp, hl, by omega, ⟨by simp, by omega, fun hn => ⟨x, rfl, fun j p hj => ?_⟩⟩, ?_⟩
    · obtain ⟨hj1, hj2⟩ := List.getElem?_eq_some_iff.1 hj
      rw [List.length_map, List.length_range] at hj1
      rw [List.getElem_map, List.getElem_range] at hj2
      obtain ⟨r1, r2, r3, r4, r5, r6, r7⟩ := hr j (by omega)
      have hpl : p.length = L j := by rw [← hj2, List.length_take]; omega
      refine ⟨[.slice (A j) p.length (C j)], rfl, ⟨A j, C j, rfl, by omega, ?_⟩, fun i u hu => ?_⟩
      · refine ⟨rfl, by omega, fun hn => ?_⟩
        cases hA : A j with
        | none => have := r6 hA; omega
        | some a' =>
          refine ⟨a', rfl, fun i q hq => ⟨[.int .i64 q], rfl, rfl, fun i' u hu => ?_⟩⟩
          obtain ⟨hq1, hq2⟩ := List.getElem?_eq_some_iff.1 hq
          have hi : i' = 0 := by
            have := (List.getElem?_eq_some_iff.1 hu).1
            simp at this
            exact this
          subst hi
          have hu2 : u = .int .i64 q := by simpa using hu.symm
          subst hu2
          have h3 := (r7 a' hA).2 i (by omega)
          subst hj2
          rw [List.getElem_take] at hq2
          rw [List.getD_eq_getElem?_getD, List.getElem?_eq_getElem (by omega), Option.getD_some, hq2] at h3
          have hsz : (Kd.int .i64).sz = 1 := rfl
          rw [hsz, Nat.mul_one, Nat.add_zero]
          exact h3
      · have hi : i = 0 := by
          have := (List.getElem?_eq_some_iff.1 hu).1
          simp at this
          exact this
        subst hi
        have hu2 : u = .slice (A j) p.length (C j) := by simpa using hu.symm
        subst hu2
        have hsz : (Kd.slice 3 (Kd.int .i64)).sz = 1 := rfl
        rw [hsz, Nat.mul_one, Nat.add_zero, hpl]
        exact r1
    · intro y hy n hn
      obtain ⟨r, hr1, rfl⟩ := List.mem_map.1 hy
      have := List.mem_range.1 hr1
      exact (hr r (by omega)).2.2.2.2.1 n (List.mem_of_mem_take hn)
end Go.Proofs.YtdlbmbijobcljaaDoor

namespace Go.Proofs.YtdlbmbijobcljaaDoor.featureImproves
open Go.ChangeShapes Go.WideShapes Go.ChangeAt Go.RowKit
open Go.ChangeMaps (open_string shut_string)
set_option linter.unusedVariables false
theorem own : ownKnob Tryd.prog.godebug = none := by kernel_rfl
theorem laidOut : laidOutB Tryd.prog = true := by kernel_rfl
set_option maxRecDepth 100000 in
theorem lifted (os : Os) (started : os.Started) (H : Type) (enc : TypeId × Value → H) :
    ReturnsInHanded {} Tryd.checked os 19 .any (fun w args => (Rows.featureImprovesSpec.pre enc Tryd.prog Tryd.f19 Rows.featureImprovesRow.domain false w args ∧ laidMetH Tryd.prog laidC w) ∧ sizedMet enc Tryd.prog Tryd.f19 (OpenSpec.ofChange Rows.featureImprovesSpec) false w args) (Rows.featureImprovesSpec.post enc Tryd.prog Tryd.f19 false true false false) := by
  refine returnsInHanded_of_change_and (C := Tryd.checked) (X := fun w _ => laidMetH Tryd.prog laidC w) (fun _ _ _ hh h => h.of_heap hh) own started (by kernel_rfl) Tryd.func19
    (ChangeSpec.witness_shaped (enc := enc) (C := Tryd.checked) (os := os) (X := fun w _ => laidMetH Tryd.prog laidC w) false (World.doorLaid Tryd.prog 4000 os) #[.slice none 0 0, .slice none 0 0, .int .i64 0] 8 rfl (World.shaped_of_RefB (by kernel_rfl) (by kernel_rfl)) (by kernel_rfl) (by kernel_rfl) (by kernel_rfl) (door_met os _)) ?_
  intro W base args ds gs before hval0 hW hcnd hsz0 hL _
  have ht := tab_of_laid hL
  have hval : ∀ (j : Nat) t v, Tryd.f19.params[j]? = some t → args[j]? = some v → Value.okWide Tryd.prog W .any base t v := hval0
  have hW' := hW
  obtain ⟨p, q, hA0, hV, rfl, hfz, hnd⟩ := hW
  have hA : DataW.TrodAll enc Tryd.prog W 0 (fun _ => true) true Tryd.f19.params.toList args.toList ds p := hA0
  rw [Tryd.params19] at hA hval
  obtain ⟨v0, vs0, d0, ds0, p0, q0, hargs, rfl, rfl, h0, r0⟩ := trodAll_cons hA
  obtain ⟨v1, vs1, d1, ds1, p1, q1, rfl, rfl, rfl, h1, r1⟩ := trodAll_cons r0
  obtain ⟨v2, vs2, d2, ds2, p2, q2, rfl, rfl, rfl, h2, r2⟩ := trodAll_cons r1
  obtain ⟨rfl, rfl, rfl⟩ := trodAll_nil r2
  obtain rfl : args = #[v0, v1, v2] := by cases args; simp_all
  obtain ⟨rfl, rfl⟩ := trodVars_none hV
  obtain ⟨a0, len0, cap0, rfl⟩ := okWide_slice Tryd.underlying42 (hval 0 42 v0 rfl rfl)
  have k0 := h0
  have lt0 : ∀ x ∈ p0, x.block < W.heap.size := by obtain ⟨m, hm⟩ := k0; exact DataW.trod_lt m _ _ _ hm
  obtain ⟨z0, rfl, hc0, hm0, hr0, hw0⟩ := rows_of_trod h0
  obtain ⟨a1, len1, cap1, rfl⟩ := okWide_slice Tryd.underlying42 (hval 1 42 v1 rfl rfl)
  have k1 := h1
  have lt1 : ∀ x ∈ p1, x.block < W.heap.size := by obtain ⟨m, hm⟩ := k1; exact DataW.trod_lt m _ _ _ hm
  obtain ⟨z1, rfl, hc1, hm1, hr1, hw1⟩ := rows_of_trod h1
  obtain ⟨a2, rfl, rfl, rfl, w2⟩ := open_int Tryd.underlying3 (hval 2 3 v2 rfl rfl) h2
  clear hA0 hval0 hsz0
  obtain ⟨k, hk⟩ := Pure.FeatureImproves z0 hm0 z1 hm1 a2 w2
  refine (X.earshotlaw03_FeatureImproves.calls k _ _ z0 _ _ z1 a2 true W ht hr0 hc0 hr1 hc1 hk).mono fun e W' ⟨he, bel⟩ => ?_
  subst he
  exact ⟨_, rfl, _, _, _, [], _, [], hW', trodAll_mk1 (shut_bool Tryd.underlying4 _), (trodAll_cons_mk (Below.trod laidOut (by kernel_rfl) (of_decide_eq_true (by kernel_rfl)) k0 bel lt0) (trodAll_cons_mk (Below.trod laidOut (by kernel_rfl) (of_decide_eq_true (by kernel_rfl)) k1 bel lt1) (trodAll_cons_mk (shut_int Tryd.underlying3 w2) trodAll_mk0))), rfl, bel.frame _, fun h => by cases h⟩
theorem closed : joinedFacts Tryd.prog 19 Tryd.f19 Rows.featureImprovesSpec Rows.featureImprovesRow = true :=
  joined_of rfl rfl rfl (by kernel_rfl) (by kernel_rfl) (by kernel_rfl) (by kernel_rfl) (by kernel_rfl) (by kernel_rfl) (by kernel_rfl) (by kernel_rfl) (by kernel_rfl) (by kernel_rfl) (by kernel_rfl) (by kernel_rfl) (by kernel_rfl) (by kernel_rfl) (by kernel_rfl) (by kernel_rfl) (by kernel_rfl) (by kernel_rfl) (by kernel_rfl) (by kernel_rfl) (by kernel_rfl) (by kernel_rfl) (by kernel_rfl)
theorem over : Rows.featureImprovesRow.holds Tryd.pinned (OpenSpec.ofChange Rows.featureImprovesSpec) :=
  OpenClaim.holds_of_wide 19 Tryd.f19 rfl rfl rfl rfl rfl rfl rfl ⟨rfl, rfl, rfl, rfl, rfl⟩ rfl rfl rfl rfl rfl (by kernel_rfl) Tryd.func19 closed
    (of_decide_eq_true (by kernel_rfl)) (by unfold Func.isWrapper; first | (rw [if_pos (by decide +kernel)]; kernel_rfl) | (rw [if_neg (by decide +kernel)]; exact ⟨rfl, rfl⟩))
    (fun os started H enc _ => lifted os started H enc)
theorem proved : Rows.FeatureImprovesSaid := over
end Go.Proofs.YtdlbmbijobcljaaDoor.featureImproves
namespace Go.Proofs.YtdlbmbijobcljaaDoor
/-- The row, under a short name, for the claim. -/
theorem featureImproves_holds : Rows.FeatureImprovesSaid := featureImproves.proved
/-- THE TIED CARD. -/
theorem featureImproves_card : Rows.FeatureImprovesCardSaid :=
  Claim7.holds_tied_plain_at .later [] [.data] true (true, "113a42d89db8992b3819bea1327673c10f2f9c06b5576fb37f9626d51ac793bb") false
    featureImproves_holds (fun _ h => by cases h) (by kernel_rfl) (fun _ h => by cases h) featureImproves_row_tie rfl ⟨rfl, rfl⟩ jMain rfl
    (fun f fn hf hfn => by
      obtain rfl : f = 19 := Option.some.inj ((show Tryd.prog.funcNamed "earshot/earshotlaw03.FeatureImproves" = some 19 by kernel_rfl).symm.trans hf) |>.symm
      obtain rfl : fn = Tryd.f19 := (Option.some.inj (Tryd.func19.symm.trans hfn)).symm
      exact ⟨by kernel_rfl, fun j t ht => by
        rw [Tryd.params19] at ht
        have hm : t ∈ [42, 42, 3] := by simpa using Array.mem_of_getElem? ht
        have hall : ([42, 42, 3].all fun u => !Tryd.prog.wantsStandIn u) = true := by kernel_rfl
        exact (show Tryd.prog.wantsStandIn t = false by simpa using List.all_eq_true.1 hall t hm)⟩)
    (by kernel_rfl)
end Go.Proofs.YtdlbmbijobcljaaDoor
