/- FeatureSeeds: for every input whatever the law returns true, and each argument reads behind the call as it read before. Conditions: those of the row: the listed variable earshot/api.Cosines reads as laid, which the card ties to the program's text. By a program of this session's own (wip/print/gen_row2.py). -/
import Derived.Test.YtdlbmbijobcljaaDoorLbFeatureSeeds
import Derived.Test.YtdlbmbijobcljaaDoorLaFeatureSeeds
import Derived.Test.YtdlbmbijobcljaaDoorRows
import Derived.Test.YtdlbmbijobcljaaDoorMA
import Derived.Deep.Matrix
import Derived.ProofKit
import Derived.OpenShut
import Derived.Test.YtdlbmbijobcljaaDoorCards
import Derived.Test.YtdlbmbijobcljaaDoorMJ
import Derived.Test.YtdlbmbijobcljaaDoorHJoinedE
import Derived.Test.YtdlbmbijobcljaaDoorTie
import Derived.LaidMore
import Derived.Stop.Joined
import Derived.SevenTiedAt
import Derived.WalkKit
import Derived.ShutString
import Derived.ChangeOld
import Derived.Below
import Derived.SizedLaws
import Derived.Test.YtdlbmbijobcljaaDoorVA
namespace Go.Proofs.YtdlbmbijobcljaaDoor.Pure
open Go.RowKit Go.Proofs.YtdlbmbijobcljaaDoor.X Go.Proofs.YtdlbmbijobcljaaDoorW.PrintWords Go.Proofs.YtdlbmbijobcljaaDoorW.PrintLast Go.Proofs.YtdlbmbijobcljaaDoorW.PrintMore
set_option linter.unusedVariables false
set_option linter.unusedSimpArgs false
set_option linter.unusedSectionVars false
/-- The first one of the farthest vectors, and how far it is; -1 and 0 if none is away. -/
def far (v out : List (List Int)) : Nat → Int × Int
  | 0 => (-1, 0)
  | i + 1 => if (near (v.getD i []) out).2 > (far v out i).2 then ((i : Int), (near (v.getD i []) out).2) else far v out i
/-- Not less than 0. -/
def nn (x : Int) : Int := if x < 0 then 0 else x
def seedsTo (v : List (List Int)) : Nat → List (List Int) → List (List Int)
  | 0, out => out
  | d + 1, out => if (far v out v.length).1 < 0 then out else seedsTo v d (out ++ [v.getD (far v out v.length).1.toNat []])
theorem distTo_self (a : List Int) (i : Nat) : distTo a a i = 0 := by
  induction i with
  | zero => rfl
  | succ i ih => simp only [distTo, ih]; rw [Int.sub_self]; rfl
section
variable {c : Nat} {v : List (List Int)} (hv : ∀ x ∈ v, Vec c x) (hv0 : 1 ≤ v.length) (hv1 : v.length ≤ 10000)
include hv hv0 hv1
theorem vget (i : Nat) (hi : i < v.length) : Vec c (v.getD i []) := by
  rw [List.getD_eq_getElem?_getD, List.getElem?_eq_getElem hi]
  exact hv _ (List.getElem_mem hi)
section
variable {out : List (List Int)} (ho : ∀ x ∈ out, Vec c x) (ho0 : 1 ≤ out.length) (ho1 : out.length ≤ 256)
include ho ho0 ho1
theorem far_ok : ∀ i, i ≤ v.length → ((far v out i).1 = -1 ∧ (far v out i).2 = 0) ∨ (0 ≤ (far v out i).1 ∧ (far v out i).1 < (i : Int) ∧ 0 < (far v out i).2 ∧ (far v out i).2 = (near (v.getD (far v out i).1.toNat []) out).2) := by
  intro i
  induction i with
  | zero => intro _; exact .inl ⟨rfl, rfl⟩
  | succ i ih =>
    intro hi
    have h1 := ih (by omega)
    simp only [far]
    by_cases h : (near (v.getD i []) out).2 > (far v out i).2
    · rw [if_pos h]
      refine .inr ⟨by omega, by show (i : Int) < ((i + 1 : Nat) : Int); omega, ?_, by simp⟩
      show 0 < (near (v.getD i []) out).2
      omega
    · rw [if_neg h]
      rcases h1 with h1 | h1
      · exact .inl h1
      · exact .inr ⟨h1.1, by omega, h1.2.2⟩
theorem far_most : ∀ i, i ≤ v.length → ∀ t, t < i → (near (v.getD t []) out).2 ≤ (far v out i).2 := by
  intro i
  induction i with
  | zero => intro _ t ht; omega
  | succ i ih =>
    intro hi t ht
    simp only [far]
    by_cases h : (near (v.getD i []) out).2 > (far v out i).2
    · rw [if_pos h]
      show _ ≤ (near (v.getD i []) out).2
      by_cases e : t = i
      · subst e; exact Int.le_refl _
      · have := ih (by omega) t (by omega); omega
    · rw [if_neg h]
      by_cases e : t = i
      · subst e; omega
      · exact ih (by omega) t (by omega)
theorem seeds_scan (kk : Int) (R : List (List Int) × Int)
    (h : Ev (fun k => feature_Seeds.l1 k v kk out (far v out v.length).1 (far v out v.length).2 v (v.length : Int) (v.length : Int)) R) :
    Ev (fun k => feature_Seeds.l1 k v kk out (-1) 0 v (v.length : Int) 0) R := by
  have e := up (fun j k => feature_Seeds.l1 k v kk out (far v out j).1 (far v out j).2 v (v.length : Int) (j : Int)) (fun _ => R) v.length h (by
      rintro j hj ⟨K, ih⟩
      have hx := hv _ (List.getElem_mem hj)
      obtain ⟨K1, e1⟩ := nearest_ev hx ho (by omega)
      refine ⟨K + K1 + 1, fun k hk => ?_⟩
      obtain ⟨m, rfl⟩ : ∃ m, k = m + 1 := ⟨k - 1, by omega⟩
      have ih := ih m (by omega)
      have e1 := e1 m (by omega)
      dsimp only at ih e1 ⊢
      simp only [feature_Seeds.l1]
      rw [if_pos (by omega), if_pos (by omega), if_pos (by omega), rd2_lt v j hj, e1, Option.bind_some, w64 (n := (j : Int) + 1) (by omega) (by omega)]
      simp only [far] at ih
      have hg : v.getD j [] = v[j] := by rw [List.getD_eq_getElem?_getD, List.getElem?_eq_getElem hj]; rfl
      rw [hg] at ih
      by_cases hlt : (near v[j] out).2 > (far v out j).2
      · rw [if_pos hlt] at ih ⊢; exact ih
      · rw [if_neg hlt] at ih ⊢; exact ih) 0 (by omega)
  exact e
theorem ref_seeds_scan (kk : Int) (R : List (List Int))
    (h : Ev (fun k => earshotref03_Seeds.l1 k v kk out (nn (far v out v.length).1) (far v out v.length).2 (v.length : Int)) R) :
    Ev (fun k => earshotref03_Seeds.l1 k v kk out 0 0 0) R := by
  have e := up (fun j k => earshotref03_Seeds.l1 k v kk out (nn (far v out j).1) (far v out j).2 (j : Int)) (fun _ => R) v.length h (by
      rintro j hj ⟨K, ih⟩
      have hx := hv _ (List.getElem_mem hj)
      have hok := near_ok hx ho ho0
      obtain ⟨K1, e1⟩ := ref_nearest_ev hx ho (by omega) ho0
      obtain ⟨K2, e2⟩ := Distance_ev hx (book_get hx ho (near v[j] out).1.toNat (by omega))
      refine ⟨K + K1 + K2 + 1, fun k hk => ?_⟩
      obtain ⟨m, rfl⟩ : ∃ m, k = m + 1 := ⟨k - 1, by omega⟩
      have ih := ih m (by omega)
      have e1 := e1 m (by omega)
      have e2 := e2 m (by omega)
      dsimp only at ih e1 e2 ⊢
      simp only [earshotref03_Seeds.l1]
      have hr : rd_L2 out (near v[j] out).1 = out.getD (near v[j] out).1.toNat [] := rfl
      rw [if_pos (by omega), if_pos (by omega), rd2_lt v j hj, e1, Option.bind_some, if_pos (by omega), if_pos (by omega), hr, e2, Option.bind_some, ← hok.2.2, w64 (n := (j : Int) + 1) (by omega) (by omega)]
      simp only [far] at ih
      have hg : v.getD j [] = v[j] := by rw [List.getD_eq_getElem?_getD, List.getElem?_eq_getElem hj]; rfl
      rw [hg] at ih
      by_cases hlt : (near v[j] out).2 > (far v out j).2
      · rw [if_pos hlt] at ih ⊢
        have hz : nn (j : Int) = (j : Int) := by unfold nn; rw [if_neg (show ¬ (j : Int) < 0 by omega)]
        rw [hz] at ih
        exact ih
      · rw [if_neg hlt] at ih ⊢; exact ih) 0 (by omega)
  exact e
end
theorem snoc_vec {out : List (List Int)} (ho : ∀ x ∈ out, Vec c x) (i : Nat) (hi : i < v.length) : ∀ x ∈ out ++ [v.getD i []], Vec c x := by
  intro x hx
  rcases List.mem_append.1 hx with h | h
  · exact ho x h
  · rw [List.mem_singleton.1 h]; exact vget hv hv0 hv1 i hi
theorem seeds_go (kk : Nat) (hkk : kk ≤ 256) : ∀ (d : Nat) (out : List (List Int)), (∀ x ∈ out, Vec c x) → 1 ≤ out.length → out.length + d = kk → Ev (fun k => feature_Seeds.l0 k v (kk : Int) out) (seedsTo v d out, 0) := by
  intro d
  induction d with
  | zero =>
    intro out ho ho0 hd
    refine Ev.step (f := fun _ => some (out, 0)) (fun k => ?_) (Ev.now _)
    simp only [feature_Seeds.l0]
    rw [if_neg (by omega)]
  | succ d ih =>
    intro out ho ho0 hd
    have hok := far_ok hv hv0 hv1 ho ho0 (by omega) v.length (Nat.le_refl _)
    have fin : Ev (fun k => feature_Seeds.l1 k v (kk : Int) out (far v out v.length).1 (far v out v.length).2 v (v.length : Int) (v.length : Int)) (seedsTo v (d + 1) out, 0) := by
      by_cases hn : (far v out v.length).1 < 0
      · refine Ev.step (f := fun _ => some (out, 0)) (fun k => ?_) (by simp only [seedsTo]; rw [if_pos hn]; exact Ev.now _)
        simp only [feature_Seeds.l1]
        rw [if_neg (by omega), if_pos hn]
      · have hok2 := hok.resolve_left (fun h => hn (by omega))
        have hx := vget hv hv0 hv1 (far v out v.length).1.toNat (by omega)
        have e := ih (out ++ [v.getD (far v out v.length).1.toNat []]) (snoc_vec hv hv0 hv1 ho _ (by omega)) (by simp) (by simp; omega)
        obtain ⟨K, e⟩ := e
        refine ⟨K + 1, fun k hk => ?_⟩
        obtain ⟨m, rfl⟩ : ∃ m, k = m + 1 := ⟨k - 1, by omega⟩
        have e := e m (by omega)
        dsimp only at e ⊢
        simp only [feature_Seeds.l1, seedsTo]
        have hr : rd_L2 v (far v out v.length).1 = v.getD (far v out v.length).1.toNat [] := rfl
        unfold slices_Clone_int_int.f
        rw [if_neg (by omega), if_neg hn, if_neg hn, if_pos (by omega), if_pos (by omega), hr, Option.bind_some, if_pos (by have := hx.1; have := hx.2.2.1; simp only [List.length_nil]; omega), Option.bind_some, if_pos (by omega), List.nil_append]
        exact e
    obtain ⟨K, e⟩ := seeds_scan hv hv0 hv1 ho ho0 (by omega) (kk : Int) _ fin
    refine ⟨K + 1, fun k hk => ?_⟩
    obtain ⟨m, rfl⟩ : ∃ m, k = m + 1 := ⟨k - 1, by omega⟩
    have e := e m (by omega)
    dsimp only at e ⊢
    simp only [feature_Seeds.l0]
    rw [if_pos (by omega)]
    exact e
theorem ref_seeds_go (kk : Nat) (hkk : kk ≤ 256) : ∀ (d : Nat) (out : List (List Int)), (∀ x ∈ out, Vec c x) → 1 ≤ out.length → out.length + d = kk → Ev (fun k => earshotref03_Seeds.l0 k v (kk : Int) out) (seedsTo v d out) := by
  intro d
  induction d with
  | zero =>
    intro out ho ho0 hd
    refine Ev.step (f := fun _ => some out) (fun k => ?_) (Ev.now _)
    simp only [earshotref03_Seeds.l0]
    rw [if_neg (by omega)]
  | succ d ih =>
    intro out ho ho0 hd
    have hok := far_ok hv hv0 hv1 ho ho0 (by omega) v.length (Nat.le_refl _)
    have fin : Ev (fun k => earshotref03_Seeds.l1 k v (kk : Int) out (nn (far v out v.length).1) (far v out v.length).2 (v.length : Int)) (seedsTo v (d + 1) out) := by
      by_cases hn : (far v out v.length).1 < 0
      · have h0 : (far v out v.length).2 = 0 := by rcases hok with h | h; exact h.2; omega
        refine Ev.step (f := fun _ => some out) (fun k => ?_) (by simp only [seedsTo]; rw [if_pos hn]; exact Ev.now _)
        simp only [earshotref03_Seeds.l1]
        rw [if_neg (by omega), if_pos h0]
      · have hok2 := hok.resolve_left (fun h => hn (by omega))
        have hx := vget hv hv0 hv1 (far v out v.length).1.toNat (by omega)
        have e := ih (out ++ [v.getD (far v out v.length).1.toNat []]) (snoc_vec hv hv0 hv1 ho _ (by omega)) (by simp) (by simp; omega)
        obtain ⟨K, e⟩ := e
        refine ⟨K + 1, fun k hk => ?_⟩
        obtain ⟨m, rfl⟩ : ∃ m, k = m + 1 := ⟨k - 1, by omega⟩
        have e := e m (by omega)
        dsimp only at e ⊢
        simp only [earshotref03_Seeds.l1, seedsTo]
        have hr : rd_L2 v (far v out v.length).1 = v.getD (far v out v.length).1.toNat [] := rfl
        have hz : nn (far v out v.length).1 = (far v out v.length).1 := by unfold nn; rw [if_neg hn]
        rw [hz, if_neg (by omega), if_neg (by omega), if_neg hn, if_pos (by omega), if_pos (by omega), hr, if_pos (by have := hx.1; have := hx.2.2.1; simp only [List.length_nil]; omega), if_pos (by omega), List.nil_append]
        exact e
    obtain ⟨K, e⟩ := ref_seeds_scan hv hv0 hv1 ho ho0 (by omega) (kk : Int) _ fin
    refine ⟨K + 1, fun k hk => ?_⟩
    obtain ⟨m, rfl⟩ : ∃ m, k = m + 1 := ⟨k - 1, by omega⟩
    have e := e m (by omega)
    dsimp only at e ⊢
    simp only [earshotref03_Seeds.l0]
    rw [if_pos (by omega)]
    exact e
theorem seeds_props (kk : Nat) (hkk : kk ≤ 256) : ∀ (d : Nat) (out : List (List Int)), (∀ x ∈ out, Vec c x) → 1 ≤ out.length → out.length + d = kk → out.Nodup →
    (∀ x ∈ seedsTo v d out, Vec c x) ∧ 1 ≤ (seedsTo v d out).length ∧ (seedsTo v d out).length ≤ kk ∧ (seedsTo v d out).Nodup ∧ ((seedsTo v d out).length = kk ∨ (far v (seedsTo v d out) v.length).1 < 0) := by
  intro d
  induction d with
  | zero => intro out ho ho0 hd hn; exact ⟨ho, ho0, by simp only [seedsTo]; omega, hn, .inl (by simp only [seedsTo]; omega)⟩
  | succ d ih =>
    intro out ho ho0 hd hn
    simp only [seedsTo]
    by_cases h : (far v out v.length).1 < 0
    · rw [if_pos h]
      exact ⟨ho, ho0, by omega, hn, .inr h⟩
    · rw [if_neg h]
      have hok := (far_ok hv hv0 hv1 ho ho0 (by omega) v.length (Nat.le_refl _)).resolve_left (fun g => h (by omega))
      refine ih _ (snoc_vec hv hv0 hv1 ho _ (by omega)) (by simp) (by simp; omega) ?_
      rw [List.nodup_append]
      refine ⟨hn, by simp, fun a ha b hb e => ?_⟩
      rw [List.mem_singleton.1 hb] at e
      obtain ⟨q, hq, rfl⟩ := List.getElem_of_mem ha
      have hx := vget hv hv0 hv1 (far v out v.length).1.toNat (by omega)
      have hle := near_least hx ho q hq
      have hg : out.getD q [] = out[q] := by rw [List.getD_eq_getElem?_getD, List.getElem?_eq_getElem hq]; rfl
      rw [hg, e] at hle
      have h0 : dst (v.getD (far v out v.length).1.toNat []) (v.getD (far v out v.length).1.toNat []) = 0 := distTo_self _ _
      omega
theorem seeds_cost {out : List (List Int)} (ho : ∀ x ∈ out, Vec c x) (ho0 : 1 ≤ out.length) (ho1 : out.length ≤ 256) (h : (far v out v.length).1 < 0) : costOf v out = 0 := by
  have hok := far_ok hv hv0 hv1 ho ho0 ho1 v.length (Nat.le_refl _)
  have h0 : (far v out v.length).2 = 0 := by rcases hok with g | g; exact g.2; omega
  have hm := far_most hv hv0 hv1 ho ho0 ho1 v.length (Nat.le_refl _)
  have key : ∀ j, j ≤ v.length → sumL (fun x => (near x out).2) (v.take j) = 0 := by
    intro j
    induction j with
    | zero => intro _; simp [sumL]
    | succ j ih =>
      intro hj
      have hr := near_range (hv _ (List.getElem_mem (show j < v.length by omega))) ho ho0
      have hq := hm j (by omega)
      have hg : v.getD j [] = v[j] := by rw [List.getD_eq_getElem?_getD, List.getElem?_eq_getElem (by omega)]; rfl
      rw [hg] at hq
      rw [sumL_take _ _ _ (by omega), ih (by omega)]
      omega
  have := key v.length (Nat.le_refl _)
  rw [List.take_length] at this
  exact this
end
theorem law_l1 (v : List (List Int)) (kk : Int) (s : List (List Int)) (hs : s.length ≤ 256) (hr : ∀ x ∈ s, x.length ≤ 64) (hn : s.Nodup) (i : Nat) (hi : i < s.length) (h : Ev (fun k => earshotlaw03_FeatureSeeds.l0 k v kk s ((i + 1 : Nat) : Int)) true) :
    Ev (fun k => earshotlaw03_FeatureSeeds.l1 k v kk s (i : Int) 0) true := by
  have e := up (fun j k => earshotlaw03_FeatureSeeds.l1 k v kk s (i : Int) (j : Int)) (fun _ => true) i (by
      refine Ev.step (fun k => ?_) h
      simp only [earshotlaw03_FeatureSeeds.l1]
      rw [if_neg (by omega), w64 (n := (i : Int) + 1) (by omega) (by omega)]
      rfl) (by
      rintro j hj ⟨K, ih⟩
      obtain ⟨K1, e1⟩ := same_dec s[i] s[j] (by have := hr _ (List.getElem_mem hi); omega)
      have hne : s[i] ≠ s[j] := fun e => by
        have := (List.getElem_inj hn).1 e
        omega
      refine ⟨K + K1 + 1, fun k hk => ?_⟩
      obtain ⟨m, rfl⟩ : ∃ m, k = m + 1 := ⟨k - 1, by omega⟩
      have ih := ih m (by omega)
      have e1 := e1 m (by omega)
      dsimp only at ih e1 ⊢
      rw [decide_eq_false hne] at e1
      simp only [earshotlaw03_FeatureSeeds.l1]
      rw [if_pos (by omega), if_pos (by omega), if_pos (by omega), if_pos (by omega), if_pos (by omega), rd2_lt s i hi, rd2_lt s j (by omega), e1, Option.bind_some, if_neg (by simp), w64 (n := (j : Int) + 1) (by omega) (by omega)]
      exact ih) 0 (by omega)
  exact e
theorem law_s0 (v : List (List Int)) (kk : Int) (s : List (List Int)) (hs : s.length ≤ 256) (hr : ∀ x ∈ s, x.length ≤ 64) (hn : s.Nodup) (hend : (s.length : Int) = kk ∨ (fitsOf v s = 0 ∧ costOf v s = 0)) :
    Ev (fun k => earshotlaw03_FeatureSeeds.l0 k v kk s 0) true := by
  have e := up (fun i k => earshotlaw03_FeatureSeeds.l0 k v kk s (i : Int)) (fun _ => true) s.length (by
      obtain ⟨K0, e0⟩ := known_ev
      by_cases hl : (s.length : Int) = kk
      · refine ⟨K0 + 1, fun k hk => ?_⟩
        obtain ⟨m, rfl⟩ : ∃ m, k = m + 1 := ⟨k - 1, by omega⟩
        have e0 := e0 m (by omega)
        dsimp only at e0 ⊢
        simp only [earshotlaw03_FeatureSeeds.l0]
        rw [if_neg (by omega), if_pos hl, e0]
        rfl
      · obtain ⟨hf, hc⟩ := hend.resolve_left hl
        obtain ⟨K1, e1⟩ := Cost_ok v s hf
        refine ⟨K0 + K1 + 1, fun k hk => ?_⟩
        obtain ⟨m, rfl⟩ : ∃ m, k = m + 1 := ⟨k - 1, by omega⟩
        have e0 := e0 m (by omega)
        have e1 := e1 m (by omega)
        dsimp only at e0 e1 ⊢
        simp only [earshotlaw03_FeatureSeeds.l0]
        rw [if_neg (by omega), if_neg hl, e1, Option.bind_some, if_pos rfl, if_pos hc, e0]
        rfl) (by
      rintro i hi ih
      refine Ev.step (fun k => ?_) (law_l1 v kk s hs hr hn i hi ih)
      simp only [earshotlaw03_FeatureSeeds.l0]
      rw [if_pos (by omega)]) 0 (by omega)
  exact e
/-- What Seeds returns. -/
theorem Seeds_bad (v : List (List Int)) (a : Int) (hv : v.length ≤ 9223372036854775807) (w : Int) (hw : w = wrongOf v ∧ w ≠ 0 ∨ wrongOf v = 0 ∧ w = 2 ∧ (v.length = 0 ∨ a < 1 ∨ a > 256)) : Ev (fun k => feature_Seeds.f k v a) ([], w) := by
  obtain ⟨K1, e1⟩ := vectors_ev v hv
  refine ⟨K1 + 1, fun k hk => ?_⟩
  obtain ⟨m, rfl⟩ : ∃ m, k = m + 1 := ⟨k - 1, by omega⟩
  have e1 := e1 (m + 1) (by omega)
  dsimp only at e1 ⊢
  unfold feature_Seeds.f
  rw [e1, Option.bind_some]
  have hj : feature_Seeds.j0 (m + 1) v a true = some ([], 2) := by simp only [feature_Seeds.j0]; rfl
  rcases hw with ⟨rfl, h⟩ | ⟨h, rfl, g⟩
  · rw [if_neg h]
  · rw [if_pos h]
    by_cases a1 : (v.length : Int) = 0
    · rw [if_pos a1]; exact hj
    · rw [if_neg a1]
      by_cases a2 : a < 1
      · rw [if_pos a2]; exact hj
      · rw [if_neg a2, decide_eq_true (by omega)]; exact hj
theorem first_len (v : List (List Int)) {c : Nat} (hv : ∀ x ∈ v, Vec c x) (hv0 : 1 ≤ v.length) : Vec c (rd_L2 v 0) := by
  rw [rd2_zero, List.getD_eq_getElem?_getD, List.getElem?_eq_getElem (by omega)]
  exact hv _ (List.getElem_mem _)
theorem Seeds_ok (v : List (List Int)) (kk : Nat) {c : Nat} (hw : wrongOf v = 0) (hv : ∀ x ∈ v, Vec c x) (hv0 : 1 ≤ v.length) (hv1 : v.length ≤ 10000) (hk0 : 1 ≤ kk) (hk1 : kk ≤ 256) : Ev (fun k => feature_Seeds.f k v (kk : Int)) (seedsTo v (kk - 1) [rd_L2 v 0], 0) := by
  have h0 := first_len v hv hv0
  obtain ⟨K1, e1⟩ := vectors_ev v (by omega)
  obtain ⟨K2, e2⟩ := seeds_go hv hv0 hv1 kk hk1 (kk - 1) [rd_L2 v 0] (fun x hx => by rw [List.mem_singleton.1 hx]; exact h0) (by simp) (by simp; omega)
  refine ⟨K1 + K2 + 1, fun k hk => ?_⟩
  obtain ⟨m, rfl⟩ : ∃ m, k = m + 1 := ⟨k - 1, by omega⟩
  have e1 := e1 (m + 1) (by omega)
  have e2 := e2 m (by omega)
  dsimp only at e1 e2 ⊢
  unfold feature_Seeds.f
  rw [e1, Option.bind_some, if_pos hw, if_neg (by omega), if_neg (by omega), decide_eq_false (by omega)]
  simp only [feature_Seeds.j0]
  unfold slices_Clone_int_int.f
  rw [if_neg (by simp), if_pos (by omega), Option.bind_some, if_pos (by have := h0.1; have := h0.2.2.1; simp only [List.length_nil]; omega), Option.bind_some, List.nil_append]
  exact e2
theorem ref_Seeds_ok (v : List (List Int)) (kk : Nat) {c : Nat} (hv : ∀ x ∈ v, Vec c x) (hv0 : 1 ≤ v.length) (hv1 : v.length ≤ 10000) (hk0 : 1 ≤ kk) (hk1 : kk ≤ 256) : Ev (fun k => earshotref03_Seeds.f k v (kk : Int)) (seedsTo v (kk - 1) [rd_L2 v 0]) := by
  have h0 := first_len v hv hv0
  obtain ⟨K2, e2⟩ := ref_seeds_go hv hv0 hv1 kk hk1 (kk - 1) [rd_L2 v 0] (fun x hx => by rw [List.mem_singleton.1 hx]; exact h0) (by simp) (by simp; omega)
  refine ⟨K2, fun k hk => ?_⟩
  have e2 := e2 k (by omega)
  dsimp only at e2 ⊢
  unfold earshotref03_Seeds.f
  rw [if_pos (by omega), if_pos (by have := h0.1; have := h0.2.2.1; simp only [List.length_nil]; omega), List.nil_append]
  exact e2
theorem seedsLaw_bad (v : List (List Int)) (a w x : Int) (b : Bool) (hx : (if b = true then 2 else x) = w) (hw : w ≠ 0) : Ev (fun k => earshotlaw03_FeatureSeeds.j0 k v a [] w x b) true := by
  obtain ⟨K0, e0⟩ := known_ev
  refine ⟨K0 + 2, fun k hk => ?_⟩
  obtain ⟨m, rfl⟩ : ∃ m, k = m + 1 + 1 := ⟨k - 2, by omega⟩
  have e0 := e0 m (by omega)
  dsimp only at e0 ⊢
  have hj : earshotlaw03_FeatureSeeds.j1 (m + 1) v a [] w w = some true := by
    simp only [earshotlaw03_FeatureSeeds.j1]
    rw [if_neg hw, if_pos trivial, if_pos (by simp), e0]
    rfl
  simp only [earshotlaw03_FeatureSeeds.j0]
  cases b with
  | true => rw [if_pos rfl] at hx ⊢; subst hx; exact hj
  | false => rw [if_neg (by simp)] at hx ⊢; subst hx; exact hj
theorem seedsLaw_good (v : List (List Int)) (kk : Nat) {c : Nat} (hw : wrongOf v = 0) (hv : ∀ x ∈ v, Vec c x) (hv0 : 1 ≤ v.length) (hv1 : v.length ≤ 10000) (hk0 : 1 ≤ kk) (hk1 : kk ≤ 256) : Ev (fun k => earshotlaw03_FeatureSeeds.j0 k v (kk : Int) (seedsTo v (kk - 1) [rd_L2 v 0]) 0 0 false) true := by
  have h0 := first_len v hv hv0
  obtain ⟨p1, p2, p3, p4, p5⟩ := seeds_props hv hv0 hv1 kk hk1 (kk - 1) [rd_L2 v 0] (fun x hx => by rw [List.mem_singleton.1 hx]; exact h0) (by simp) (by simp; omega) (by simp)
  obtain ⟨K1, e1⟩ := ref_Seeds_ok v kk hv hv0 hv1 hk0 hk1
  obtain ⟨K2, e2⟩ := sameLists_dec (seedsTo v (kk - 1) [rd_L2 v 0]) (seedsTo v (kk - 1) [rd_L2 v 0]) (by omega) (fun x hx => by have := (p1 x hx).1; have := (p1 x hx).2.2.1; omega)
  obtain ⟨K3, e3⟩ := law_s0 v (kk : Int) (seedsTo v (kk - 1) [rd_L2 v 0]) (by omega) (fun x hx => by have := (p1 x hx).1; have := (p1 x hx).2.2.1; omega) p4 (by
    rcases p5 with h | h
    · exact .inl (by omega)
    · exact .inr ⟨fits_of_Fit ⟨hv1, p2, by omega, hv, p1⟩, seeds_cost hv hv0 hv1 p1 p2 (by omega) h⟩)
  refine ⟨K1 + K2 + K3 + 3, fun k hk => ?_⟩
  obtain ⟨m, rfl⟩ : ∃ m, k = m + 1 + 1 + 1 := ⟨k - 3, by omega⟩
  have e1 := e1 (m + 1) (by omega)
  have e2 := e2 (m + 1) (by omega)
  have e3 := e3 m (by omega)
  dsimp only at e1 e2 e3 ⊢
  rw [decide_eq_true rfl] at e2
  simp only [earshotlaw03_FeatureSeeds.j0]
  rw [if_neg (by simp)]
  simp only [earshotlaw03_FeatureSeeds.j1]
  rw [if_pos trivial, if_pos trivial, e1, Option.bind_some, e2, Option.bind_some]
  simp only [earshotlaw03_FeatureSeeds.j2]
  rw [if_neg (by simp)]
  exact e3
theorem seedsLaw_ev (v : List (List Int)) (hv : v.length ≤ 9223372036854775807) (a : Int) : Ev (fun k => earshotlaw03_FeatureSeeds.f k v a) true := by
  obtain ⟨K0, e0⟩ := few_ev v 30 (by omega) hv
  obtain ⟨K9, e9⟩ := known_ev
  have c30 : (30 : Int) = ((30 : Nat) : Int) := rfl
  cases h0 : fewOf v 30 with
  | false =>
    refine ⟨K0 + K9, fun k hk => ?_⟩
    have e0 := e0 k (by omega)
    have e9 := e9 k (by omega)
    dsimp only at e0 e9 ⊢
    rw [h0] at e0
    unfold earshotlaw03_FeatureSeeds.f
    rw [c30, e0, Option.bind_some, if_neg (by simp), e9]
    rfl
  | true =>
    obtain ⟨K1, e1⟩ := Wrong_ev v hv
    by_cases hw : wrongOf v = 0
    · obtain ⟨a0, b0⟩ := wrong_zero' v hw
      have hvec := vecsOK_Vec v b0
      by_cases bad : v.length = 0 ∨ a < 1 ∨ a > 256
      · obtain ⟨K2, e2⟩ := Seeds_bad v a hv 2 (.inr ⟨hw, rfl, bad⟩)
        obtain ⟨K3, e3⟩ := seedsLaw_bad v a 2 0 true rfl (by omega)
        refine ⟨K0 + K1 + K2 + K3, fun k hk => ?_⟩
        have e0 := e0 k (by omega)
        have e1 := e1 k (by omega)
        have e2 := e2 k (by omega)
        have e3 := e3 k (by omega)
        dsimp only at e0 e1 e2 e3 ⊢
        rw [h0] at e0
        rw [hw] at e1
        unfold earshotlaw03_FeatureSeeds.f
        rw [c30, e0, Option.bind_some, if_pos rfl, e2, Option.bind_some, e1, Option.bind_some, if_pos rfl]
        by_cases a1 : a < 1
        · rw [if_pos a1]; exact e3
        · rw [if_neg a1]
          by_cases a2 : a > 256
          · rw [if_pos a2]; exact e3
          · rw [if_neg a2, show ((v.length : Int) == 0) = true from beq_iff_eq.2 (by omega)]; exact e3
      · obtain ⟨kk, rfl⟩ : ∃ kk : Nat, a = (kk : Int) := ⟨a.toNat, by omega⟩
        obtain ⟨K2, e2⟩ := Seeds_ok v kk hw hvec (by omega) a0 (by omega) (by omega)
        obtain ⟨K3, e3⟩ := seedsLaw_good v kk hw hvec (by omega) a0 (by omega) (by omega)
        refine ⟨K0 + K1 + K2 + K3, fun k hk => ?_⟩
        have e0 := e0 k (by omega)
        have e1 := e1 k (by omega)
        have e2 := e2 k (by omega)
        have e3 := e3 k (by omega)
        dsimp only at e0 e1 e2 e3 ⊢
        rw [h0] at e0
        rw [hw] at e1
        unfold earshotlaw03_FeatureSeeds.f
        rw [c30, e0, Option.bind_some, if_pos rfl, e2, Option.bind_some, e1, Option.bind_some, if_pos rfl, if_neg (by omega), if_neg (by omega), show ((v.length : Int) == 0) = false from beq_eq_false_iff_ne.2 (by omega)]
        exact e3
    · obtain ⟨K2, e2⟩ := Seeds_bad v a hv (wrongOf v) (.inl ⟨rfl, hw⟩)
      obtain ⟨K3, e3⟩ := seedsLaw_bad v a (wrongOf v) (wrongOf v) false rfl hw
      refine ⟨K0 + K1 + K2 + K3, fun k hk => ?_⟩
      have e0 := e0 k (by omega)
      have e1 := e1 k (by omega)
      have e2 := e2 k (by omega)
      have e3 := e3 k (by omega)
      dsimp only at e0 e1 e2 e3 ⊢
      rw [h0] at e0
      unfold earshotlaw03_FeatureSeeds.f
      rw [c30, e0, Option.bind_some, if_pos rfl, e2, Option.bind_some, e1, Option.bind_some, if_neg hw]
      exact e3
theorem FeatureSeeds (v : List (List Int)) (hv : v.length ≤ 9223372036854775807) (a : Int) (ha : (Lit.int .i64 a).wf = true) : ∃ k, earshotlaw03_FeatureSeeds.f k v a = some true := (seedsLaw_ev v hv a).rounds
end Go.Proofs.YtdlbmbijobcljaaDoor.Pure

/-! What an argument that reads as a slice of numbers, or of slices of numbers, gives the walks. -/
namespace Go.Proofs.YtdlbmbijobcljaaDoor
open Go Go.ChangeShapes Go.WideShapes Go.Deep Go.RowKit Go.Proofs.YtdlbmbijobcljaaDoorW.PrintWords
theorem cells3 : Tryd.prog.cellsOf 3 = 1 := by kernel_rfl
theorem cells22 : Tryd.prog.cellsOf 22 = 1 := by kernel_rfl
theorem ints_of_trod {H : Type} {enc : TypeId × Value → H} {W : World} {base : Nat} {held : Bool} {a : Option Addr} {len cap : Nat} {d : DataW H} {ps : List MemPlace}
    (h : DataW.Trod enc Tryd.prog W base (fun _ => true) held 22 (.slice a len cap) d ps) : ∃ z : List Int, z.length = len ∧ len ≤ cap ∧ len ≤ 9223372036854775807 ∧ Kd.C (Kd.int .i64) W a len z ∧ ∀ n ∈ z, (Lit.int .i64 n).wf = true := by
  obtain ⟨fuel, hf⟩ := h
  rcases open_ints Tryd.underlying22 Tryd.underlying3 cells3 hf with ⟨hcs, _⟩ | ⟨x, l, c, zs, hcs, _, hl, hm, hz, _, hcell, hwz⟩
  · simp [Value.cells] at hcs
    obtain ⟨rfl, rfl, rfl⟩ := hcs
    exact ⟨[], rfl, Nat.le_refl _, by omega, ⟨rfl, by omega, fun hn => absurd hn (by omega)⟩, by simp⟩
  · simp [Value.cells] at hcs
    obtain ⟨rfl, rfl, rfl⟩ := hcs
    simp only [if_true] at hz
    unfold maxLen at hm
    have h63 : (2 : Nat) ^ 63 - 1 = 9223372036854775807 := by decide
    rw [h63] at hm
    refine ⟨zs.take len, by rw [List.length_take]; omega, hl, by omega, ⟨by rw [List.length_take]; omega, by omega, fun hn => ⟨x, rfl, fun j p hj => ⟨[.int .i64 p], rfl, rfl, fun i u hu => ?_⟩⟩⟩, fun n hn => hwz n (List.mem_of_mem_take hn)⟩
    obtain ⟨hj1, hj2⟩ := List.getElem?_eq_some_iff.1 hj
    rw [List.length_take] at hj1
    have hi : i = 0 := by
      have := (List.getElem?_eq_some_iff.1 hu).1
      simp at this
      exact this
    subst hi
    have hu2 : u = .int .i64 p := by simpa using hu.symm
    subst hu2
    have h3 := hcell j (by omega)
    rw [List.getElem_take] at hj2
    rw [List.getD_eq_getElem?_getD, List.getElem?_eq_getElem (by omega), Option.getD_some, hj2] at h3
    have hsz : (Kd.int .i64).sz = 1 := rfl
    rw [hsz, Nat.mul_one, Nat.add_zero]
    exact h3
theorem rows_of_trod {H : Type} {enc : TypeId × Value → H} {W : World} {base : Nat} {held : Bool} {a : Option Addr} {len cap : Nat} {d : DataW H} {ps : List MemPlace}
    (h : DataW.Trod enc Tryd.prog W base (fun _ => true) held 42 (.slice a len cap) d ps) : ∃ z : List (List Int), z.length = len ∧ len ≤ cap ∧ len ≤ 9223372036854775807 ∧ Kd.C (Kd.slice 3 (Kd.int .i64)) W a len z ∧ ∀ x ∈ z, ∀ n ∈ x, (Lit.int .i64 n).wf = true := by
  obtain ⟨fuel, hf⟩ := h
  have h63 : (2 : Nat) ^ 63 - 1 = 9223372036854775807 := by decide
  rcases open_int_rows Tryd.underlying42 Tryd.underlying22 Tryd.underlying3 cells22 cells3 hf with ⟨hcs, _⟩ | ⟨x, l, c, A, L, C, Z, hcs, _, hl, hm, _, hr⟩
  · simp [Value.cells] at hcs
    obtain ⟨rfl, rfl, rfl⟩ := hcs
    exact ⟨[], rfl, Nat.le_refl _, by omega, ⟨rfl, by omega, fun hn => absurd hn (by omega)⟩, by simp⟩
  · simp [Value.cells] at hcs
    obtain ⟨rfl, rfl, rfl⟩ := hcs
    unfold maxLen at hm hr
    rw [h63] at hm hr
    refine ⟨(List.range len).map fun r => (Z r).take (L r), by simp, hl, by omega, ⟨by simp, by omega, fun hn => ⟨x, rfl, fun j p hj => ?_⟩⟩, ?_⟩
    · obtain ⟨hj1, hj2⟩ := List.getElem?_eq_some_iff.1 hj
      rw [List.length_map, List.length_range] at hj1
      rw [List.getElem_map, List.getElem_range] at hj2
      obtain ⟨r1, r2, r3, r4, r5, r6, r7⟩ := hr j (by omega)
      have hpl : p.length = L j := by rw [← hj2, List.length_take]; omega
      refine ⟨[.slice (A j) p.length (C j)], rfl, ⟨A j, C j, rfl, by omega, ?_⟩, fun i u hu => ?_⟩
      · refine ⟨rfl, by omega, fun hn => ?_⟩
        cases hA : A j with
        | none => have := r6 hA; omega
        | some a' =>
          refine ⟨a', rfl, fun i q hq => ⟨[.int .i64 q], rfl, rfl, fun i' u hu => ?_⟩⟩
          obtain ⟨hq1, hq2⟩ := List.getElem?_eq_some_iff.1 hq
          have hi : i' = 0 := by
            have := (List.getElem?_eq_some_iff.1 hu).1
            simp at this
            exact this
          subst hi
          have hu2 : u = .int .i64 q := by simpa using hu.symm
          subst hu2
          have h3 := (r7 a' hA).2 i (by omega)
          subst hj2
          rw [List.getElem_take] at hq2
          rw [List.getD_eq_getElem?_getD, List.getElem?_eq_getElem (by omega), Option.getD_some, hq2] at h3
          have hsz : (Kd.int .i64).sz = 1 := rfl
          rw [hsz, Nat.mul_one, Nat.add_zero]
          exact h3
      · have hi : i = 0 := by
          have := (List.getElem?_eq_some_iff.1 hu).1
          simp at this
          exact this
        subst hi
        have hu2 : u = .slice (A j) p.length (C j) := by simpa using hu.symm
        subst hu2
        have hsz : (Kd.slice 3 (Kd.int .i64)).sz = 1 := rfl
        rw [hsz, Nat.mul_one, Nat.add_zero, hpl]
        exact r1
    · intro y hy n hn
      obtain ⟨r, hr1, rfl⟩ := List.mem_map.1 hy
      have := List.mem_range.1 hr1
      exact (hr r (by omega)).2.2.2.2.1 n (List.mem_of_mem_take hn)
end Go.Proofs.YtdlbmbijobcljaaDoor

namespace Go.Proofs.YtdlbmbijobcljaaDoor.featureSeeds
open Go.ChangeShapes Go.WideShapes Go.ChangeAt Go.RowKit
open Go.ChangeMaps (open_string shut_string)
set_option linter.unusedVariables false
theorem own : ownKnob Tryd.prog.godebug = none := by kernel_rfl
theorem laidOut : laidOutB Tryd.prog = true := by kernel_rfl
set_option maxRecDepth 100000 in
theorem lifted (os : Os) (started : os.Started) (H : Type) (enc : TypeId × Value → H) :
    ReturnsInHanded {} Tryd.checked os 18 .any (fun w args => (Rows.featureSeedsSpec.pre enc Tryd.prog Tryd.f18 Rows.featureSeedsRow.domain false w args ∧ laidMetH Tryd.prog laidC w) ∧ sizedMet enc Tryd.prog Tryd.f18 (OpenSpec.ofChange Rows.featureSeedsSpec) false w args) (Rows.featureSeedsSpec.post enc Tryd.prog Tryd.f18 false true false false) := by
  refine returnsInHanded_of_change_and (C := Tryd.checked) (X := fun w _ => laidMetH Tryd.prog laidC w) (fun _ _ _ hh h => h.of_heap hh) own started (by kernel_rfl) Tryd.func18
    (ChangeSpec.witness_shaped (enc := enc) (C := Tryd.checked) (os := os) (X := fun w _ => laidMetH Tryd.prog laidC w) false (World.doorLaid Tryd.prog 4000 os) #[.slice none 0 0, .int .i64 0] 8 rfl (World.shaped_of_RefB (by kernel_rfl) (by kernel_rfl)) (by kernel_rfl) (by kernel_rfl) (by kernel_rfl) (door_met os _)) ?_
  intro W base args ds gs before hval0 hW hcnd hsz0 hL _
  have ht := tab_of_laid hL
  have hval : ∀ (j : Nat) t v, Tryd.f18.params[j]? = some t → args[j]? = some v → Value.okWide Tryd.prog W .any base t v := hval0
  have hW' := hW
  obtain ⟨p, q, hA0, hV, rfl, hfz, hnd⟩ := hW
  have hA : DataW.TrodAll enc Tryd.prog W 0 (fun _ => true) true Tryd.f18.params.toList args.toList ds p := hA0
  rw [Tryd.params18] at hA hval
  obtain ⟨v0, vs0, d0, ds0, p0, q0, hargs, rfl, rfl, h0, r0⟩ := trodAll_cons hA
  obtain ⟨v1, vs1, d1, ds1, p1, q1, rfl, rfl, rfl, h1, r1⟩ := trodAll_cons r0
  obtain ⟨rfl, rfl, rfl⟩ := trodAll_nil r1
  obtain rfl : args = #[v0, v1] := by cases args; simp_all
  obtain ⟨rfl, rfl⟩ := trodVars_none hV
  obtain ⟨a0, len0, cap0, rfl⟩ := okWide_slice Tryd.underlying42 (hval 0 42 v0 rfl rfl)
  have k0 := h0
  have lt0 : ∀ x ∈ p0, x.block < W.heap.size := by obtain ⟨m, hm⟩ := k0; exact DataW.trod_lt m _ _ _ hm
  obtain ⟨z0, rfl, hc0, hm0, hr0, hw0⟩ := rows_of_trod h0
  obtain ⟨a1, rfl, rfl, rfl, w1⟩ := open_int Tryd.underlying3 (hval 1 3 v1 rfl rfl) h1
  clear hA0 hval0 hsz0
  obtain ⟨k, hk⟩ := Pure.FeatureSeeds z0 hm0 a1 w1
  refine (X.earshotlaw03_FeatureSeeds.calls k _ _ z0 a1 true W ht hr0 hc0 hk).mono fun e W' ⟨he, bel⟩ => ?_
  subst he
  exact ⟨_, rfl, _, _, _, [], _, [], hW', trodAll_mk1 (shut_bool Tryd.underlying4 _), (trodAll_cons_mk (Below.trod laidOut (by kernel_rfl) (of_decide_eq_true (by kernel_rfl)) k0 bel lt0) (trodAll_cons_mk (shut_int Tryd.underlying3 w1) trodAll_mk0)), rfl, bel.frame _, fun h => by cases h⟩
theorem closed : joinedFacts Tryd.prog 18 Tryd.f18 Rows.featureSeedsSpec Rows.featureSeedsRow = true :=
  joined_of rfl rfl rfl (by kernel_rfl) (by kernel_rfl) (by kernel_rfl) (by kernel_rfl) (by kernel_rfl) (by kernel_rfl) (by kernel_rfl) (by kernel_rfl) (by kernel_rfl) (by kernel_rfl) (by kernel_rfl) (by kernel_rfl) (by kernel_rfl) (by kernel_rfl) (by kernel_rfl) (by kernel_rfl) (by kernel_rfl) (by kernel_rfl) (by kernel_rfl) (by kernel_rfl) (by kernel_rfl) (by kernel_rfl) (by kernel_rfl)
theorem over : Rows.featureSeedsRow.holds Tryd.pinned (OpenSpec.ofChange Rows.featureSeedsSpec) :=
  OpenClaim.holds_of_wide 18 Tryd.f18 rfl rfl rfl rfl rfl rfl rfl ⟨rfl, rfl, rfl, rfl, rfl⟩ rfl rfl rfl rfl rfl (by kernel_rfl) Tryd.func18 closed
    (of_decide_eq_true (by kernel_rfl)) (by unfold Func.isWrapper; first | (rw [if_pos (by decide +kernel)]; kernel_rfl) | (rw [if_neg (by decide +kernel)]; exact ⟨rfl, rfl⟩))
    (fun os started H enc _ => lifted os started H enc)
theorem proved : Rows.FeatureSeedsSaid := over
end Go.Proofs.YtdlbmbijobcljaaDoor.featureSeeds
namespace Go.Proofs.YtdlbmbijobcljaaDoor
/-- The row, under a short name, for the claim. -/
theorem featureSeeds_holds : Rows.FeatureSeedsSaid := featureSeeds.proved
/-- THE TIED CARD. -/
theorem featureSeeds_card : Rows.FeatureSeedsCardSaid :=
  Claim7.holds_tied_plain_at .later [] [.data] true (true, "113a42d89db8992b3819bea1327673c10f2f9c06b5576fb37f9626d51ac793bb") false
    featureSeeds_holds (fun _ h => by cases h) (by kernel_rfl) (fun _ h => by cases h) featureSeeds_row_tie rfl ⟨rfl, rfl⟩ jMain rfl
    (fun f fn hf hfn => by
      obtain rfl : f = 18 := Option.some.inj ((show Tryd.prog.funcNamed "earshot/earshotlaw03.FeatureSeeds" = some 18 by kernel_rfl).symm.trans hf) |>.symm
      obtain rfl : fn = Tryd.f18 := (Option.some.inj (Tryd.func18.symm.trans hfn)).symm
      exact ⟨by kernel_rfl, fun j t ht => by
        rw [Tryd.params18] at ht
        have hm : t ∈ [42, 3] := by simpa using Array.mem_of_getElem? ht
        have hall : ([42, 3].all fun u => !Tryd.prog.wantsStandIn u) = true := by kernel_rfl
        exact (show Tryd.prog.wantsStandIn t = false by simpa using List.all_eq_true.1 hall t hm)⟩)
    (by kernel_rfl)
end Go.Proofs.YtdlbmbijobcljaaDoor
