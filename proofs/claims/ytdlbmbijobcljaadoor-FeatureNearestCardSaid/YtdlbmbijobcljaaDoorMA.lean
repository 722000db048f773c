/- Merged by a program of this session's own (wip/print/merge.py): Tab0, X0, HShort, HIndex, HWithin, X79, HCos, X84, X29, X82, X23, X147, X112, X102, HCopy, HExtended, HCepstrum, X39, HLen, X127, X85, X30, HNearest, HCopyS, HCopied, HLent, HCombined. No law stands here; conditions: none. -/
import Derived.Test.YtdlbmbijobcljaaDoorProg
import Derived.Deep.Draws
import Derived.RowKit
import Derived.Below
import Derived.Deep.AppendLies
import Derived.Maps.AppendAt
import Derived.OwnWalk
import Derived.Laws.BytesArg
import Derived.Laws.MakeOwn
import Derived.Laws.OwnMore
import Derived.Deep.OwnRows
import Derived.Tactics
import Derived.Lib.ConvBytes
import Derived.Laws.Slices
import Derived.WalkKit
import Derived.KernelRfl
import Derived.RowKit3
import Derived.Deep.LoopGhost
import Derived.Deep.QuietTactic
import Derived.BigQuiet
import Derived.WideLaws
import Derived.Deep.DeepCutAuto
import Derived.Deep.CutBlock
import Derived.Deep.RegionHeld3
import Derived.Laws.Rows
import Derived.Lib.AppendStr
import Derived.ArgAppend
import Derived.Laws.IdiomCopy
import Derived.OrdersHeld
import Derived.Laws.BitsLemmas
import Derived.Test.YtdlbmbijobcljaaDoorVA
import Derived.Laws.CopyOwn
import Derived.Test.YtdlbmbijobcljaaDoorHLenBase
import Derived.WalkMore
import Derived.Deep.DeepMust
namespace Go.Proofs.YtdlbmbijobcljaaDoor.X
set_option linter.unusedVariables false
/-- What the table of cosines holds. -/
def tabL : List Int := [16384, 16379, 16364, 16340, 16305, 16261, 16207, 16143, 16069, 15986, 15893, 15791, 15679, 15557, 15426, 15286, 15137, 14978, 14811, 14635, 14449, 14256, 14053, 13842, 13623, 13395, 13160, 12916, 12665, 12406, 12140, 11866, 11585, 11297, 11003, 10702, 10394, 10080, 9760, 9434, 9102, 8765, 8423, 8076, 7723, 7366, 7005, 6639, 6270, 5897, 5520, 5139, 4756, 4370, 3981, 3590, 3196, 2801, 2404, 2006, 1606, 1205, 804, 402, 0]
theorem frozen_at {w w' : World} {m : Nat} {a : Addr} {b : Bool} (hq : w.drewN m = w') (h : w.frozen? a = b) : w'.frozen? a = b := by subst hq; exact h
open Go.RowKit in
theorem wrap_quo64 (n : Nat) (h : ¬ (n : Int) = 0) : wrap64 ((64 : Int) / (n : Int)) = (64 : Int) / (n : Int) := by
  have h1 : 0 ≤ (64 : Int) / (n : Int) := Int.ediv_nonneg (by omega) (by omega)
  have h2 : (64 : Int) / (n : Int) ≤ 64 := Int.ediv_le_self _ (by omega)
  unfold wrap64
  omega
end Go.Proofs.YtdlbmbijobcljaaDoor.X

-- By a program of this session's own (wip/print), after the kit's print.
namespace Go.Proofs.YtdlbmbijobcljaaDoor.X
open Go.RowKit Go.Proofs.YtdlbmbijobcljaaDoorW.PrintWords Go.Proofs.YtdlbmbijobcljaaDoorW.PrintLast Go.Proofs.YtdlbmbijobcljaaDoorW.PrintMore
attribute [local go_sem] max2_int min2_int max_two min_two max_three min_three max_four min_four   -- for this text's walks alone
set_option linter.unusedVariables false
set_option linter.unusedSimpArgs false



def errW : Option Int → Value
 | none => .nilIface
 | some c => .iface 0 (.int .i64 c)
theorem errW_none : errW none = .nilIface := rfl
theorem errW_some (c : Int) : errW (some c) = .iface 0 (.int .i64 c) := rfl

theorem info3 : (Tryd.prog.info? 3).map (fun i => (i.zero, i.size, i.bytes)) = some (some (.int .i64 0), 1, 8) := by kernel_rfl
theorem info22 : (Tryd.prog.info? 22).map (fun i => (i.zero, i.size, i.bytes)) = some (some (.slice none 0 0), 1, 24) := by kernel_rfl
theorem info118 : (Tryd.prog.info? 118).map (fun i => (i.zero, i.size, i.bytes)) = some (some (.int .u32 0), 1, 4) := by kernel_rfl
-- the values' own types
def rd_L2 (xs : List (List Int)) (i : Int) : (List Int) := xs.getD i.toNat ([] : List Int)
theorem at_L2 {w : World} {A : Option Addr} {n : Nat} {xs : List (List Int)} (h : Kd.C (Kd.slice 3 (Kd.int .i64)) w A n xs) (i : Int) (h0 : 0 ≤ i) (h1 : i < n) : ∃ ad A0 c0, A = some ad ∧ w.cell? (ad.add i.toNat) = some (.slice A0 (rd_L2 xs i).length c0) ∧ (rd_L2 xs i).length ≤ c0 ∧ (Kd.int .i64).C w A0 (rd_L2 xs i).length (rd_L2 xs i) := by
 obtain ⟨ad, c, e, _, hK, hc0⟩ := Kd.C_get h ([] : List Int) i h0 h1
 have hc : ∀ j u, c[j]? = some u → w.cell? (ad.add (i.toNat * 1 + j)) = some u := hc0
 obtain ⟨A0, c0, rfl, l0, g0⟩ := hK
 exact ⟨ad, A0, c0, e, by have hq := hc 0 _ rfl; rwa [Nat.mul_one, Nat.add_zero] at hq, l0, g0⟩

/-! #### struct type 51 -/
structure S51 where
 f0 : Int
 f1 : Int
def z51 : S51 := ⟨(0 : Int), (0 : Int)⟩
def k51 : Kd S51 := Kd.iso (Kd.pair (Kd.int .i64) (Kd.int .i64)) (fun x : S51 => (x.f0, x.f1))
theorem k51_heap : Kd.Heap k51 := Kd.heap_iso _ (Kd.heap_pair (Kd.heap_int .i64) (Kd.heap_int .i64))
theorem k51_open {w : World} {x : S51} {cs : List Value} (h : k51.K w x cs) : cs = [.int .i64 x.f0, .int .i64 x.f1] := by
 obtain ⟨_, _, rfl, rfl, rfl⟩ := h
 exact rfl
theorem k51_openM {w : World} {base : Nat} {ok : Nat → Prop} {x : S51} {cs : List Value} (h : k51.M w base ok x cs) : cs = [.int .i64 x.f0, .int .i64 x.f1] := by
 obtain ⟨_, _, rfl, rfl, rfl⟩ := h
 exact rfl
theorem k51_mk (w : World) (x : S51)  : k51.K w x [.int .i64 x.f0, .int .i64 x.f1] := ⟨[.int .i64 x.f0], [.int .i64 x.f1], rfl, rfl, rfl⟩
theorem k51_mkM (w : World) (base : Nat) (ok : Nat → Prop) (x : S51)  : k51.M w base ok x [.int .i64 x.f0, .int .i64 x.f1] := ⟨[.int .i64 x.f0], [.int .i64 x.f1], rfl, rfl, rfl⟩
theorem k51_mkF (W : World) (ok : Nat → Prop) (x : S51) : Kd.FK k51 W ok x [.int .i64 x.f0, .int .i64 x.f1] := fun W2 _ => k51_mk W2 x
def rd_T51 (xs : List S51) (i : Int) : S51 := xs.getD i.toNat z51
theorem at_T51 {w : World} {A : Option Addr} {n : Nat} {xs : List S51} (h : Kd.C k51 w A n xs) (i : Int) (h0 : 0 ≤ i) (h1 : i < n) : ∃ ad , A = some ad ∧ w.cell? (ad.add (i.toNat * 2)) = some (.int .i64 (rd_T51 xs i).f0) ∧ w.cell? ⟨(ad.add (i.toNat * 2)).block, (ad.add (i.toNat * 2)).off + 1, none⟩ = some (.int .i64 (rd_T51 xs i).f1) := by
 obtain ⟨ad, c, e, _, hK, hc0⟩ := Kd.C_get h z51 i h0 h1
 have hc : ∀ j u, c[j]? = some u → w.cell? (ad.add (i.toNat * 2 + j)) = some u := hc0
 obtain rfl := k51_open hK
 exact ⟨ad, e, hc 0 _ rfl, by rw [← add_field _ _ 1 (by omega)]; exact hc 1 _ rfl⟩

end Go.Proofs.YtdlbmbijobcljaaDoor.X

/-! Short words for what the printed walks say over and over: an argument that is left out is found by the tactic that stands beside it. -/
namespace Go.Proofs.YtdlbmbijobcljaaDoor.X
open Go.RowKit Go.Proofs.YtdlbmbijobcljaaDoorW.PrintWords Go.Proofs.YtdlbmbijobcljaaDoorW.PrintLast Go.Proofs.YtdlbmbijobcljaaDoorW.PrintMore
set_option linter.unusedVariables false
set_option linter.unusedSimpArgs false
theorem tB {p : Prop} (h : p := by repeat (first | (with_reducible first | exact HB.out | apply below_alloc | apply pw_below_drewN | apply below_drew1) | exact HB.out)) : p := h
theorem tG {p : Prop} (h : p := by repeat (first | (with_reducible first | exact HB.out | apply below_alloc | apply pw_below_drewN | apply below_drew1 | refine below_set ?_ GE101.out | refine below_set ?_ GE102.out | refine below_set ?_ GE103.out | refine below_set ?_ GE108.out | refine below_set ?_ GE123.out | refine below_set ?_ GE130.out | refine below_set ?_ GE143.out) | exact HB.out)) : p := h
theorem tA {p : Prop} (h : p := by first | (with_reducible assumption) | assumption) : p := h
theorem tL {p : Prop} (h : p := by (try simp only [List.map_toArray, List.map_cons, List.map_nil]); first | done | rfl | (simp only [List.length_drop, List.length_take]; rfl)) : p := h
theorem tR {p q : Prop} (hq : q) (f : q → p := by intro hq_; (with_reducible repeat (first | apply Kd.R_alloc | apply Kd.R_drewN | apply Kd.R_drew)); exact hq_) : p := f hq
theorem tS {p q : Prop} (hq : q) (f : q → p := by intro hq_; (with_reducible repeat (first | apply Kd.S_alloc | apply Kd.S_drewN | apply Kd.S_drew)); exact hq_) : p := f hq
theorem tN {p q : Prop} (hq : q) (f : q → p := by intro hq_; (with_reducible repeat (first | apply Kd.N_alloc | apply Kd.N_drewN | apply Kd.N_drew)); exact hq_) : p := f hq
theorem tV {p q : Prop} (hq : q) (f : q → p := by intro hq_; (with_reducible repeat (first | apply Kd.V_alloc | apply Kd.V_drewN | apply Kd.V_drew)); exact hq_) : p := f hq
theorem tK {p q : Prop} (hq : q) (f : q → p := by intro hq_; (with_reducible repeat (first | refine blk_drewN ?_ _ | refine blk_drew ?_ | refine blk_alloc ?_ _)); exact hq_) : p := f hq
theorem tC {p q : Prop} (hq : q) (f : q → p := by intro hq_; repeat (first | exact hq_ | (with_reducible refine Kd.C_alloc ?_ _) | (with_reducible refine Kd.C_drewN ?_ _) | (with_reducible refine Kd.C_drew ?_))) : p := f hq
/-- i operations of n have run. -/
def bm (i n : Nat) : Array Bool := (List.replicate i true ++ List.replicate (n - i) false).toArray
/-- The operations that have run, by the bits of a number. -/
def bq (m n : Nat) : Array Bool := ((List.range n).map fun i => m.testBit i).toArray
section
variable {P : Program} {ops : Array Oper} {Q : Exit → Act → World → Prop} {md : Region.Mode} {S : World → Prop} {ds : List Nat} {T : Bool × List (List Nat × List Nat)} {B : List Nat}
theorem nm {fuel : Nat} {l : Array Bool} {a a' : Act} {w : World} (h : wpAnyLast P md ops Q S ds fuel l a' w) (ha : a = a' := by show Act.put _ (some _) _ = _; simp only [Act.put, List.setIfInBounds_toArray, List.set_cons_zero, List.set_cons_succ, i64_w, i32_w]; rfl) : wpAnyLast P md ops Q S ds fuel l a w := norm_ ha h
theorem pI (i : Nat) (N : Option Tmp) (l' : Array Bool) {oi : Oper} {v : Value} {fuel : Nat} {l : Array Bool} {a a' : Act} {w : World} (HT : rtab md ops = T) (h : wpAnyLast P md ops Q S ds fuel l' a' w)
    (hi : ops[i]? = some oi := by exact rfl) (hN : oi.dst = N := by exact rfl) (hc : anyT T l.toList l'.toList i = true := by kernel_rfl) (hQ : ∀ c a w, Q (.panic c) (a.put oi.dst v) w → Q (.panic c) a w := by exact fun _ _ _ h => h)
    (hw : Region.wanted oi (yielded ops a.tmps) = true := by rfl) (hy : ∀ w', (execOp a.eval oi).run P w' = .ok (.value v) w' := by intro w'; go_simp; with_reducible rfl)
    (ha : a.put N v = a' := by simp only [Act.put, List.setIfInBounds_toArray, List.set_cons_zero, List.set_cons_succ, i64_w, i32_w]; rfl) : wpAnyLast P md ops Q S ds (fuel + 1) l a w :=
  pure_ l' hi hN (any_of HT hc) hQ (Or.inl ⟨hw, hy⟩) ha h
theorem pO (i : Nat) (N : Option Tmp) (l' : Array Bool) {oi : Oper} {fuel : Nat} {l : Array Bool} {a a' : Act} {w : World} (HT : rtab md ops = T) (h : wpAnyLast P md ops Q S ds fuel l' a' w)
    (hi : ops[i]? = some oi := by exact rfl) (hN : oi.dst = N := by exact rfl) (hc : anyT T l.toList l'.toList i = true := by kernel_rfl) (hQ : ∀ c a w, Q (.panic c) (a.put oi.dst undef) w → Q (.panic c) a w := by exact fun _ _ _ h => h)
    (hw : Region.wanted oi (yielded ops a.tmps) = false := by rfl)
    (ha : a.put N undef = a' := by simp only [Act.put, List.setIfInBounds_toArray, List.set_cons_zero, List.set_cons_succ, i64_w, i32_w]; rfl) : wpAnyLast P md ops Q S ds (fuel + 1) l a w :=
  pure_ l' hi hN (any_of HT hc) hQ (Or.inr ⟨hw, rfl⟩) ha h
theorem tk1 (i : Nat) (N : Option Tmp) (l' : Array Bool) {oi : Oper} {v : Value} {fuel : Nat} {l : Array Bool} {a a' : Act} {w : World} (HT : rtab md ops = T) (HW : waitsOk T.2 B = true) (hS : S w) (h : wpAnyLast P md ops Q S ds fuel l' a' w)
    (hi : ops[i]? = some oi := by exact rfl) (hN : oi.dst = N := by exact rfl) (hc : takeW T B ds l.toList l'.toList i = true := by kernel_rfl) (hQ : ∀ c a w, Q (.panic c) (a.put oi.dst v) w → Q (.panic c) a w := by exact fun _ _ _ h => h)
    (hw : Region.wanted oi (yielded ops a.tmps) = true := by rfl) (hy : ∀ w', S w' → (execOp a.eval oi).run P w' = .ok (.value v) w' := by intro w' s0; go_simp; with_reducible rfl)
    (ha : a.put N v = a' := by simp only [Act.put, List.setIfInBounds_toArray, List.set_cons_zero, List.set_cons_succ, i64_w, i32_w]; rfl) : wpAnyLast P md ops Q S ds (fuel + 1) l a w :=
  take_ l' hi hN (take_ofW HT HW hc) hQ (Or.inl ⟨hw, hy⟩) hS ha h
theorem tk2 (i : Nat) (N : Option Tmp) (l' : Array Bool) {oi : Oper} {v : Value} {fuel : Nat} {l : Array Bool} {a a' : Act} {w : World} (HT : rtab md ops = T) (HW : waitsOk T.2 B = true) (hS : S w) (h : wpAnyLast P md ops Q S ds fuel l' a' w)
    (hi : ops[i]? = some oi := by exact rfl) (hN : oi.dst = N := by exact rfl) (hc : takeW T B ds l.toList l'.toList i = true := by kernel_rfl) (hQ : ∀ c a w, Q (.panic c) (a.put oi.dst v) w → Q (.panic c) a w := by exact fun _ _ _ h => h)
    (hw : Region.wanted oi (yielded ops a.tmps) = true := by rfl) (hy : ∀ w', S w' → (execOp a.eval oi).run P w' = .ok (.value v) w' := by rintro w' ⟨s0, s1⟩; go_simp; with_reducible rfl)
    (ha : a.put N v = a' := by simp only [Act.put, List.setIfInBounds_toArray, List.set_cons_zero, List.set_cons_succ, i64_w, i32_w]; rfl) : wpAnyLast P md ops Q S ds (fuel + 1) l a w :=
  take_ l' hi hN (take_ofW HT HW hc) hQ (Or.inl ⟨hw, hy⟩) hS ha h
theorem tk3 (i : Nat) (N : Option Tmp) (l' : Array Bool) {oi : Oper} {v : Value} {fuel : Nat} {l : Array Bool} {a a' : Act} {w : World} (HT : rtab md ops = T) (HW : waitsOk T.2 B = true) (hS : S w) (h : wpAnyLast P md ops Q S ds fuel l' a' w)
    (hi : ops[i]? = some oi := by exact rfl) (hN : oi.dst = N := by exact rfl) (hc : takeW T B ds l.toList l'.toList i = true := by kernel_rfl) (hQ : ∀ c a w, Q (.panic c) (a.put oi.dst v) w → Q (.panic c) a w := by exact fun _ _ _ h => h)
    (hw : Region.wanted oi (yielded ops a.tmps) = true := by rfl) (hy : ∀ w', S w' → (execOp a.eval oi).run P w' = .ok (.value v) w' := by rintro w' ⟨s0, s1, s2⟩; go_simp; with_reducible rfl)
    (ha : a.put N v = a' := by simp only [Act.put, List.setIfInBounds_toArray, List.set_cons_zero, List.set_cons_succ, i64_w, i32_w]; rfl) : wpAnyLast P md ops Q S ds (fuel + 1) l a w :=
  take_ l' hi hN (take_ofW HT HW hc) hQ (Or.inl ⟨hw, hy⟩) hS ha h
theorem tk4 (i : Nat) (N : Option Tmp) (l' : Array Bool) {oi : Oper} {v : Value} {fuel : Nat} {l : Array Bool} {a a' : Act} {w : World} (HT : rtab md ops = T) (HW : waitsOk T.2 B = true) (hS : S w) (h : wpAnyLast P md ops Q S ds fuel l' a' w)
    (hi : ops[i]? = some oi := by exact rfl) (hN : oi.dst = N := by exact rfl) (hc : takeW T B ds l.toList l'.toList i = true := by kernel_rfl) (hQ : ∀ c a w, Q (.panic c) (a.put oi.dst v) w → Q (.panic c) a w := by exact fun _ _ _ h => h)
    (hw : Region.wanted oi (yielded ops a.tmps) = true := by rfl) (hy : ∀ w', S w' → (execOp a.eval oi).run P w' = .ok (.value v) w' := by rintro w' ⟨s0, s1, s2, s3⟩; go_simp; with_reducible rfl)
    (ha : a.put N v = a' := by simp only [Act.put, List.setIfInBounds_toArray, List.set_cons_zero, List.set_cons_succ, i64_w, i32_w]; rfl) : wpAnyLast P md ops Q S ds (fuel + 1) l a w :=
  take_ l' hi hN (take_ofW HT HW hc) hQ (Or.inl ⟨hw, hy⟩) hS ha h
theorem tk5 (i : Nat) (N : Option Tmp) (l' : Array Bool) {oi : Oper} {v : Value} {fuel : Nat} {l : Array Bool} {a a' : Act} {w : World} (HT : rtab md ops = T) (HW : waitsOk T.2 B = true) (hS : S w) (h : wpAnyLast P md ops Q S ds fuel l' a' w)
    (hi : ops[i]? = some oi := by exact rfl) (hN : oi.dst = N := by exact rfl) (hc : takeW T B ds l.toList l'.toList i = true := by kernel_rfl) (hQ : ∀ c a w, Q (.panic c) (a.put oi.dst v) w → Q (.panic c) a w := by exact fun _ _ _ h => h)
    (hw : Region.wanted oi (yielded ops a.tmps) = true := by rfl) (hy : ∀ w', S w' → (execOp a.eval oi).run P w' = .ok (.value v) w' := by rintro w' ⟨s0, s1, s2, s3, s4⟩; go_simp; with_reducible rfl)
    (ha : a.put N v = a' := by simp only [Act.put, List.setIfInBounds_toArray, List.set_cons_zero, List.set_cons_succ, i64_w, i32_w]; rfl) : wpAnyLast P md ops Q S ds (fuel + 1) l a w :=
  take_ l' hi hN (take_ofW HT HW hc) hQ (Or.inl ⟨hw, hy⟩) hS ha h
theorem tk6 (i : Nat) (N : Option Tmp) (l' : Array Bool) {oi : Oper} {v : Value} {fuel : Nat} {l : Array Bool} {a a' : Act} {w : World} (HT : rtab md ops = T) (HW : waitsOk T.2 B = true) (hS : S w) (h : wpAnyLast P md ops Q S ds fuel l' a' w)
    (hi : ops[i]? = some oi := by exact rfl) (hN : oi.dst = N := by exact rfl) (hc : takeW T B ds l.toList l'.toList i = true := by kernel_rfl) (hQ : ∀ c a w, Q (.panic c) (a.put oi.dst v) w → Q (.panic c) a w := by exact fun _ _ _ h => h)
    (hw : Region.wanted oi (yielded ops a.tmps) = true := by rfl) (hy : ∀ w', S w' → (execOp a.eval oi).run P w' = .ok (.value v) w' := by rintro w' ⟨s0, s1, s2, s3, s4, s5⟩; go_simp; with_reducible rfl)
    (ha : a.put N v = a' := by simp only [Act.put, List.setIfInBounds_toArray, List.set_cons_zero, List.set_cons_succ, i64_w, i32_w]; rfl) : wpAnyLast P md ops Q S ds (fuel + 1) l a w :=
  take_ l' hi hN (take_ofW HT HW hc) hQ (Or.inl ⟨hw, hy⟩) hS ha h
end
end Go.Proofs.YtdlbmbijobcljaaDoor.X

namespace Go.Proofs.YtdlbmbijobcljaaDoor.X
open Go.RowKit Go.Proofs.YtdlbmbijobcljaaDoorW.PrintWords Go.Proofs.YtdlbmbijobcljaaDoorW.PrintLast Go.Proofs.YtdlbmbijobcljaaDoorW.PrintMore
set_option linter.unusedVariables false
set_option linter.unusedSimpArgs false

/-- What an index that is searched for says: whether there is one. -/
def SomeIdx (b : Bool) (w : World) (e : Ending) (w' : World) : Prop := ∃ i : Int, decide (0 ≤ i) = b ∧ e = .returned (.int .i64 i) ∧ Drawn0 w w'
theorem any_of_at {p : Int → Bool} {l : List Int} {k : Nat} (hk : k < l.length) (h : p (rd l k) = true) : l.any p = true := by
  rw [List.any_eq_true]
  refine ⟨l[k], List.getElem_mem hk, ?_⟩
  have : rd l k = l[k] := by simp [rd, List.getD_eq_getElem?_getD, List.getElem?_eq_getElem hk]
  rwa [this] at h
theorem any_none {p : Int → Bool} {l : List Int} (h : ∀ j : Nat, j < l.length → p (rd l j) = false) : l.any p = false := by
  rw [List.any_eq_false]
  intro x hx
  obtain ⟨j, hj, rfl⟩ := List.mem_iff_getElem.1 hx
  have := h j hj
  have e : rd l j = l[j] := by simp [rd, List.getD_eq_getElem?_getD, List.getElem?_eq_getElem hj]
  rw [e] at this
  simp [this]
/-- The closure of feature.within: the number is greater than the bound. -/
def beyond (b v : Int) : Bool := decide (v < wrap64 (-b)) || decide (b < v)
set_option maxHeartbeats 4000000 in
set_option maxRecDepth 100000 in
theorem beyond_calls (p : Addr) (b : Int) (v : Int) (w : World) (hp : w.cell? p = some (.int .i64 b)) :
    Calls Tryd.prog 126 #[.int .i64 v, .pointer (some p)] w fun e w' => e = .returned (.bool (beyond b v)) ∧ Drawn0 w w' := by
  by_cases c1 : v < wrap64 (-b)
  · have hv : beyond b v = true := by unfold beyond; rw [decide_eq_true c1]; rfl
    rw [hv]
    clear hv
    have c1b : decide (v < wrap64 (-b)) = true := decide_eq_true c1
    go_enter Tryd.func126, Tryd.ntmps126
    go_wp2
    go_ret
    exact ⟨rfl, Drawn0.refl _⟩
  · have c1b : decide (v < wrap64 (-b)) = false := decide_eq_false c1
    by_cases c2 : b < v
    · have hv : beyond b v = true := by unfold beyond; rw [decide_eq_true c2]; simp
      rw [hv]
      clear hv c1
      have c2b : decide (b < v) = true := decide_eq_true c2
      go_enter Tryd.func126, Tryd.ntmps126
      go_wp2
      go_ret
      exact ⟨rfl, Drawn0.refl _⟩
    · have hv : beyond b v = false := by unfold beyond; rw [c1b, decide_eq_false c2]; rfl
      rw [hv]
      clear hv c1
      have c2b : decide (b < v) = false := decide_eq_false c2
      go_enter Tryd.func126, Tryd.ntmps126
      go_wp2
      go_ret
      exact ⟨rfl, Drawn0.refl _⟩
theorem beyond_is (p : Addr) (b : Int) (v : Int) (r : Bool) (w : World) (hp : w.cell? p = some (.int .i64 b)) (hr : beyond b v = r) :
    Calls Tryd.prog 126 #[.int .i64 v, .pointer (some p)] w fun e w' => e = .returned (.bool r) ∧ Drawn0 w w' := by
  rw [← hr]
  exact beyond_calls p b v w hp
set_option maxHeartbeats 4000000 in
set_option maxRecDepth 100000 in
theorem beyond_index (p : Addr) (b : Int) (A0 : Option Addr) (c0 : Nat) (l0 : List Int) (w : World) (hr0 : Kd.C (Kd.int .i64) w A0 l0.length l0) (hc0 : l0.length ≤ c0) (hp : w.cell? p = some (.int .i64 b)) :
    Calls Tryd.prog 152 #[.slice A0 l0.length c0, .func (.func 126) #[] #[.pointer (some p)]] w (SomeIdx (l0.any (beyond b)) w) := by
  have HR0 := Aside0.mk hr0
  have HC0 := Aside0.mk hc0
  clear hr0 hc0
  have hm : l0.length ≤ 9223372036854775807 := HR0.out.2.1
  have eg : ∀ args w, (callFunc 126 args).run Tryd.prog w = .ok (.enter 126 args) w := fun args w => enters_ Tryd.func126 (by kernel_rfl) rfl args w
  go_enter Tryd.func152, Tryd.ntmps152
  go_wp2
  go_loopw [8] (fun i w' => ∃ k : Nat, k ≤ l0.length ∧ i = .int .i64 k ∧ Aside0 (∀ j : Nat, j < k → beyond b (rd l0 j) = false) ∧ Drawn0 w w') (fun i _ => l0.length - (intOf i).toNat)
  case atStart => exact ⟨0, Nat.zero_le _, rfl, ⟨fun j hj => absurd hj (Nat.not_lt_zero j)⟩, Drawn0.refl _⟩
  case round =>
    obtain ⟨k, hk, rfl, HN, ⟨m1, rfl⟩⟩ := hrel
    by_cases hlt : k < l0.length
    · obtain ⟨ad1, e1, hx1⟩ := Kd.at_int HR0.out (k : Int) (by omega) (by omega)
      cases e1
      rw [Int.toNat_natCast] at hx1
      by_cases hb : beyond b (rd l0 (k : Int)) = true
      · have HA := Aside0.mk (any_of_at (p := (beyond b)) hlt hb)
        have HB := Aside0.mk hb
        clear hb
        go_wp2_with (go_at_call 126; (with_reducible refine (beyond_is p b _ true _ ?side1 HB.out).mono ?_); (case side1 => exact hp); rintro e w' ⟨rfl, ⟨nd, rfl⟩⟩)
        go_ret
        exact ⟨(k : Int), by rw [HA.out]; exact decide_eq_true (by omega), rfl, by repeat (first | exact Drawn0.refl _ | apply Drawn0.step)⟩
      · have hb' : beyond b (rd l0 (k : Int)) = false := by simpa using hb
        have HB := Aside0.mk hb'
        clear hb hb'
        go_wp2_with (go_at_call 126; (with_reducible refine (beyond_is p b _ false _ ?side1 HB.out).mono ?_); (case side1 => exact hp); rintro e w' ⟨rfl, ⟨nd, rfl⟩⟩)
        go_roundw
        case rel => exact ⟨k + 1, by omega, by go_num, ⟨fun j hj => by
          rcases Nat.lt_or_ge j k with h | h
          · exact HN.out j h
          · obtain rfl : j = k := by omega
            exact HB.out⟩, by repeat (first | exact Drawn0.refl _ | apply Drawn0.step)⟩
        case measure => simp [intOf]; omega
    · have hge : l0.length ≤ k := by omega
      go_wp2
      go_ret
      exact ⟨-1, by rw [any_none (fun j hj => HN.out j (by omega))]; rfl, rfl, by repeat (first | exact Drawn0.refl _ | apply Drawn0.step)⟩
set_option maxHeartbeats 4000000 in
set_option maxRecDepth 100000 in
theorem beyond_contains (p : Addr) (b : Int) (A0 : Option Addr) (c0 : Nat) (l0 : List Int) (w : World) (hr0 : Kd.C (Kd.int .i64) w A0 l0.length l0) (hc0 : l0.length ≤ c0) (hp : w.cell? p = some (.int .i64 b)) :
    Calls Tryd.prog 125 #[.slice A0 l0.length c0, .func (.func 126) #[] #[.pointer (some p)]] w fun e w' => e = .returned (.bool (l0.any (beyond b))) ∧ Drawn0 w w' := by
  have HR0 := Aside0.mk hr0
  have HC0 := Aside0.mk hc0
  clear hr0 hc0
  go_enter Tryd.func125, Tryd.ntmps125
  go_wp2_with (go_at_call 152; refine (beyond_index p b _ _ l0 _ HR0.out HC0.out hp).mono ?_; rintro e w' ⟨i, hi, rfl, ⟨nd, rfl⟩⟩; have HI := Aside0.mk hi; clear hi)
  go_ret
  exact ⟨by rw [← HI.out]; rfl, by repeat (first | exact Drawn0.refl _ | apply Drawn0.step)⟩
/-- The closure of wave.values. -/
def beyondV (v : Int) : Bool := decide (v < -2147483647) || decide (2147483647 < v)
set_option maxHeartbeats 4000000 in
set_option maxRecDepth 100000 in
theorem beyondV_calls (v : Int) (w : World) :
    Calls Tryd.prog 158 #[.int .i64 v] w fun e w' => e = .returned (.bool (beyondV v)) ∧ Drawn0 w w' := by
  by_cases c1 : v < -2147483647
  · have hv : beyondV v = true := by unfold beyondV; rw [decide_eq_true c1]; rfl
    rw [hv]
    clear hv
    have c1b : decide (v < -2147483647) = true := decide_eq_true c1
    go_enter Tryd.func158, Tryd.ntmps158
    go_wp2
    go_ret
    exact ⟨rfl, Drawn0.refl _⟩
  · have c1b : decide (v < -2147483647) = false := decide_eq_false c1
    by_cases c2 : 2147483647 < v
    · have hv : beyondV v = true := by unfold beyondV; rw [decide_eq_true c2]; simp
      rw [hv]
      clear hv c1
      have c2b : decide (2147483647 < v) = true := decide_eq_true c2
      go_enter Tryd.func158, Tryd.ntmps158
      go_wp2
      go_ret
      exact ⟨rfl, Drawn0.refl _⟩
    · have hv : beyondV v = false := by unfold beyondV; rw [c1b, decide_eq_false c2]; rfl
      rw [hv]
      clear hv c1
      have c2b : decide (2147483647 < v) = false := decide_eq_false c2
      go_enter Tryd.func158, Tryd.ntmps158
      go_wp2
      go_ret
      exact ⟨rfl, Drawn0.refl _⟩
theorem beyondV_is (v : Int) (r : Bool) (w : World) (hr : beyondV v = r) :
    Calls Tryd.prog 158 #[.int .i64 v] w fun e w' => e = .returned (.bool r) ∧ Drawn0 w w' := by
  rw [← hr]
  exact beyondV_calls v w
set_option maxHeartbeats 4000000 in
set_option maxRecDepth 100000 in
theorem beyondV_index (A0 : Option Addr) (c0 : Nat) (l0 : List Int) (w : World) (hr0 : Kd.C (Kd.int .i64) w A0 l0.length l0) (hc0 : l0.length ≤ c0) :
    Calls Tryd.prog 152 #[.slice A0 l0.length c0, .func (.func 158) #[] #[]] w (SomeIdx (l0.any beyondV) w) := by
  have HR0 := Aside0.mk hr0
  have HC0 := Aside0.mk hc0
  clear hr0 hc0
  have hm : l0.length ≤ 9223372036854775807 := HR0.out.2.1
  have eg : ∀ args w, (callFunc 158 args).run Tryd.prog w = .ok (.enter 158 args) w := fun args w => enters_ Tryd.func158 (by kernel_rfl) rfl args w
  go_enter Tryd.func152, Tryd.ntmps152
  go_wp2
  go_loopw [8] (fun i w' => ∃ k : Nat, k ≤ l0.length ∧ i = .int .i64 k ∧ Aside0 (∀ j : Nat, j < k → beyondV (rd l0 j) = false) ∧ Drawn0 w w') (fun i _ => l0.length - (intOf i).toNat)
  case atStart => exact ⟨0, Nat.zero_le _, rfl, ⟨fun j hj => absurd hj (Nat.not_lt_zero j)⟩, Drawn0.refl _⟩
  case round =>
    obtain ⟨k, hk, rfl, HN, ⟨m1, rfl⟩⟩ := hrel
    by_cases hlt : k < l0.length
    · obtain ⟨ad1, e1, hx1⟩ := Kd.at_int HR0.out (k : Int) (by omega) (by omega)
      cases e1
      rw [Int.toNat_natCast] at hx1
      by_cases hb : beyondV (rd l0 (k : Int)) = true
      · have HA := Aside0.mk (any_of_at (p := beyondV) hlt hb)
        have HB := Aside0.mk hb
        clear hb
        go_wp2_with (go_at_call 158; (with_reducible refine (beyondV_is _ true _ HB.out).mono ?_); rintro e w' ⟨rfl, ⟨nd, rfl⟩⟩)
        go_ret
        exact ⟨(k : Int), by rw [HA.out]; exact decide_eq_true (by omega), rfl, by repeat (first | exact Drawn0.refl _ | apply Drawn0.step)⟩
      · have hb' : beyondV (rd l0 (k : Int)) = false := by simpa using hb
        have HB := Aside0.mk hb'
        clear hb hb'
        go_wp2_with (go_at_call 158; (with_reducible refine (beyondV_is _ false _ HB.out).mono ?_); rintro e w' ⟨rfl, ⟨nd, rfl⟩⟩)
        go_roundw
        case rel => exact ⟨k + 1, by omega, by go_num, ⟨fun j hj => by
          rcases Nat.lt_or_ge j k with h | h
          · exact HN.out j h
          · obtain rfl : j = k := by omega
            exact HB.out⟩, by repeat (first | exact Drawn0.refl _ | apply Drawn0.step)⟩
        case measure => simp [intOf]; omega
    · have hge : l0.length ≤ k := by omega
      go_wp2
      go_ret
      exact ⟨-1, by rw [any_none (fun j hj => HN.out j (by omega))]; rfl, rfl, by repeat (first | exact Drawn0.refl _ | apply Drawn0.step)⟩
set_option maxHeartbeats 4000000 in
set_option maxRecDepth 100000 in
theorem beyondV_contains (A0 : Option Addr) (c0 : Nat) (l0 : List Int) (w : World) (hr0 : Kd.C (Kd.int .i64) w A0 l0.length l0) (hc0 : l0.length ≤ c0) :
    Calls Tryd.prog 125 #[.slice A0 l0.length c0, .func (.func 158) #[] #[]] w fun e w' => e = .returned (.bool (l0.any beyondV)) ∧ Drawn0 w w' := by
  have HR0 := Aside0.mk hr0
  have HC0 := Aside0.mk hc0
  clear hr0 hc0
  go_enter Tryd.func125, Tryd.ntmps125
  go_wp2_with (go_at_call 152; refine (beyondV_index _ _ l0 _ HR0.out HC0.out).mono ?_; rintro e w' ⟨i, hi, rfl, ⟨nd, rfl⟩⟩; have HI := Aside0.mk hi; clear hi)
  go_ret
  exact ⟨by rw [← HI.out]; rfl, by repeat (first | exact Drawn0.refl _ | apply Drawn0.step)⟩
/-- The closure of wave.samples. -/
def beyondS (v : Int) : Bool := decide (v < -32768) || decide (32767 < v)
set_option maxHeartbeats 4000000 in
set_option maxRecDepth 100000 in
theorem beyondS_calls (v : Int) (w : World) :
    Calls Tryd.prog 161 #[.int .i64 v] w fun e w' => e = .returned (.bool (beyondS v)) ∧ Drawn0 w w' := by
  by_cases c1 : v < -32768
  · have hv : beyondS v = true := by unfold beyondS; rw [decide_eq_true c1]; rfl
    rw [hv]
    clear hv
    have c1b : decide (v < -32768) = true := decide_eq_true c1
    go_enter Tryd.func161, Tryd.ntmps161
    go_wp2
    go_ret
    exact ⟨rfl, Drawn0.refl _⟩
  · have c1b : decide (v < -32768) = false := decide_eq_false c1
    by_cases c2 : 32767 < v
    · have hv : beyondS v = true := by unfold beyondS; rw [decide_eq_true c2]; simp
      rw [hv]
      clear hv c1
      have c2b : decide (32767 < v) = true := decide_eq_true c2
      go_enter Tryd.func161, Tryd.ntmps161
      go_wp2
      go_ret
      exact ⟨rfl, Drawn0.refl _⟩
    · have hv : beyondS v = false := by unfold beyondS; rw [c1b, decide_eq_false c2]; rfl
      rw [hv]
      clear hv c1
      have c2b : decide (32767 < v) = false := decide_eq_false c2
      go_enter Tryd.func161, Tryd.ntmps161
      go_wp2
      go_ret
      exact ⟨rfl, Drawn0.refl _⟩
theorem beyondS_is (v : Int) (r : Bool) (w : World) (hr : beyondS v = r) :
    Calls Tryd.prog 161 #[.int .i64 v] w fun e w' => e = .returned (.bool r) ∧ Drawn0 w w' := by
  rw [← hr]
  exact beyondS_calls v w
set_option maxHeartbeats 4000000 in
set_option maxRecDepth 100000 in
theorem beyondS_index (A0 : Option Addr) (c0 : Nat) (l0 : List Int) (w : World) (hr0 : Kd.C (Kd.int .i64) w A0 l0.length l0) (hc0 : l0.length ≤ c0) :
    Calls Tryd.prog 152 #[.slice A0 l0.length c0, .func (.func 161) #[] #[]] w (SomeIdx (l0.any beyondS) w) := by
  have HR0 := Aside0.mk hr0
  have HC0 := Aside0.mk hc0
  clear hr0 hc0
  have hm : l0.length ≤ 9223372036854775807 := HR0.out.2.1
  have eg : ∀ args w, (callFunc 161 args).run Tryd.prog w = .ok (.enter 161 args) w := fun args w => enters_ Tryd.func161 (by kernel_rfl) rfl args w
  go_enter Tryd.func152, Tryd.ntmps152
  go_wp2
  go_loopw [8] (fun i w' => ∃ k : Nat, k ≤ l0.length ∧ i = .int .i64 k ∧ Aside0 (∀ j : Nat, j < k → beyondS (rd l0 j) = false) ∧ Drawn0 w w') (fun i _ => l0.length - (intOf i).toNat)
  case atStart => exact ⟨0, Nat.zero_le _, rfl, ⟨fun j hj => absurd hj (Nat.not_lt_zero j)⟩, Drawn0.refl _⟩
  case round =>
    obtain ⟨k, hk, rfl, HN, ⟨m1, rfl⟩⟩ := hrel
    by_cases hlt : k < l0.length
    · obtain ⟨ad1, e1, hx1⟩ := Kd.at_int HR0.out (k : Int) (by omega) (by omega)
      cases e1
      rw [Int.toNat_natCast] at hx1
      by_cases hb : beyondS (rd l0 (k : Int)) = true
      · have HA := Aside0.mk (any_of_at (p := beyondS) hlt hb)
        have HB := Aside0.mk hb
        clear hb
        go_wp2_with (go_at_call 161; (with_reducible refine (beyondS_is _ true _ HB.out).mono ?_); rintro e w' ⟨rfl, ⟨nd, rfl⟩⟩)
        go_ret
        exact ⟨(k : Int), by rw [HA.out]; exact decide_eq_true (by omega), rfl, by repeat (first | exact Drawn0.refl _ | apply Drawn0.step)⟩
      · have hb' : beyondS (rd l0 (k : Int)) = false := by simpa using hb
        have HB := Aside0.mk hb'
        clear hb hb'
        go_wp2_with (go_at_call 161; (with_reducible refine (beyondS_is _ false _ HB.out).mono ?_); rintro e w' ⟨rfl, ⟨nd, rfl⟩⟩)
        go_roundw
        case rel => exact ⟨k + 1, by omega, by go_num, ⟨fun j hj => by
          rcases Nat.lt_or_ge j k with h | h
          · exact HN.out j h
          · obtain rfl : j = k := by omega
            exact HB.out⟩, by repeat (first | exact Drawn0.refl _ | apply Drawn0.step)⟩
        case measure => simp [intOf]; omega
    · have hge : l0.length ≤ k := by omega
      go_wp2
      go_ret
      exact ⟨-1, by rw [any_none (fun j hj => HN.out j (by omega))]; rfl, rfl, by repeat (first | exact Drawn0.refl _ | apply Drawn0.step)⟩
set_option maxHeartbeats 4000000 in
set_option maxRecDepth 100000 in
theorem beyondS_contains (A0 : Option Addr) (c0 : Nat) (l0 : List Int) (w : World) (hr0 : Kd.C (Kd.int .i64) w A0 l0.length l0) (hc0 : l0.length ≤ c0) :
    Calls Tryd.prog 125 #[.slice A0 l0.length c0, .func (.func 161) #[] #[]] w fun e w' => e = .returned (.bool (l0.any beyondS)) ∧ Drawn0 w w' := by
  have HR0 := Aside0.mk hr0
  have HC0 := Aside0.mk hc0
  clear hr0 hc0
  go_enter Tryd.func125, Tryd.ntmps125
  go_wp2_with (go_at_call 152; refine (beyondS_index _ _ l0 _ HR0.out HC0.out).mono ?_; rintro e w' ⟨i, hi, rfl, ⟨nd, rfl⟩⟩; have HI := Aside0.mk hi; clear hi)
  go_ret
  exact ⟨by rw [← HI.out]; rfl, by repeat (first | exact Drawn0.refl _ | apply Drawn0.step)⟩
end Go.Proofs.YtdlbmbijobcljaaDoor.X

namespace Go.Proofs.YtdlbmbijobcljaaDoor.X
open Go.RowKit Go.Proofs.YtdlbmbijobcljaaDoorW.PrintWords Go.Proofs.YtdlbmbijobcljaaDoorW.PrintLast Go.Proofs.YtdlbmbijobcljaaDoorW.PrintMore
set_option linter.unusedVariables false
set_option linter.unusedSimpArgs false

def feature_within.f (l0 : List Int) (a1 : Int) : Option Bool := some (!l0.any (beyond a1))
set_option maxHeartbeats 4000000 in
set_option maxRecDepth 100000 in
theorem feature_within.calls (A0 : Option Addr) (c0 : Nat) (l0 : List Int) (a1 : Int) (r : Bool) (w : World) (hr0 : Kd.C (Kd.int .i64) w A0 l0.length l0) (hc0 : l0.length ≤ c0) (h : feature_within.f l0 a1 = some r) :
    Calls Tryd.prog 80 #[.slice A0 l0.length c0, .int .i64 a1] w fun e w' => e = .returned (.bool r) ∧ Below w.heap.size w w' := by
  obtain rfl := Option.some.inj h
  clear h
  have HR0 := Aside0.mk hr0
  have HC0 := Aside0.mk hc0
  clear hr0 hc0
  go_enter Tryd.func80, Tryd.ntmps80
  go_wp2_with (go_at_call 125; (with_reducible refine (beyond_contains ⟨w.heap.size, 0, none⟩ a1 _ _ l0 _ ?side1 ?side2 ?side3).mono ?_); (case side1 => exact Kd.C_alloc HR0.out _); (case side2 => exact HC0.out); (case side3 => simp); rintro e w' ⟨rfl, ⟨nd, rfl⟩⟩)
  go_ret
  exact ⟨rfl, pw_below_drewN (below_alloc (Below.refl _ _) _) _⟩
end Go.Proofs.YtdlbmbijobcljaaDoor.X

-- By a program of this session's own (wip/print), after the kit's print.
namespace Go.Proofs.YtdlbmbijobcljaaDoor.X
open Go.RowKit Go.Proofs.YtdlbmbijobcljaaDoorW.PrintWords Go.Proofs.YtdlbmbijobcljaaDoorW.PrintLast Go.Proofs.YtdlbmbijobcljaaDoorW.PrintMore
attribute [local go_sem] max2_int min2_int max_two min_two max_three min_three max_four min_four   -- for this text's walks alone
set_option linter.unusedVariables false
set_option linter.unusedSimpArgs false

/-! ### feature_possible: function 79 -/
def feature_possible.f (a0 : Int) : Option (Bool) := if a0 ≥ 1 then (if a0 ≤ 64 then (some ((Go.bits .and .i64 a0 (wrap64 (a0 - 1))) == 0)) else (some false)) else (some false)
set_option maxHeartbeats 8000000 in
set_option maxRecDepth 100000 in
theorem feature_possible.calls (a0 : Int) (r : Bool) (w : World) (h : feature_possible.f a0 = some r) :
  Calls Tryd.prog 79 #[.int .i64 a0] w fun e w' => e = .returned (.bool r) ∧ Drawn0 w w' := by
 have H : (if a0 ≥ 1 then (if a0 ≤ 64 then (some ((Go.bits .and .i64 a0 (wrap64 (a0 - 1))) == 0)) else (some false)) else (some false)) = some r := h
 clear h
 by_cases c2 : a0 ≥ 1
 ·rw [if_pos c2] at H
  have c2b0 : decide (1 ≤ a0) = true := decide_eq_true c2
  clear c2
  by_cases c3 : a0 ≤ 64
  ·rw [if_pos c3] at H
   have c3b0 := decide_eq_true c3
   clear c3
   obtain rfl := Option.some.inj H
   go_enter Tryd.func79, Tryd.ntmps79
   go_wp2
   go_ret
   exact ⟨by first | rfl | (simp; done) | (simp [*]; done), by repeat (first | exact Drawn0.refl _ | apply Drawn0.step)⟩
  ·rw [if_neg c3] at H
   have c3b0 := decide_eq_false c3
   clear c3
   obtain rfl := Option.some.inj H
   go_enter Tryd.func79, Tryd.ntmps79
   go_wp2
   go_ret
   exact ⟨by first | rfl | (simp; done) | (simp [*]; done), by repeat (first | exact Drawn0.refl _ | apply Drawn0.step)⟩
 ·rw [if_neg c2] at H
  have c2b0 : decide (1 ≤ a0) = false := decide_eq_false c2
  clear c2
  obtain rfl := Option.some.inj H
  go_enter Tryd.func79, Tryd.ntmps79
  go_wp2
  go_ret
  exact ⟨by first | rfl | (simp; done) | (simp [*]; done), by repeat (first | exact Drawn0.refl _ | apply Drawn0.step)⟩

end Go.Proofs.YtdlbmbijobcljaaDoor.X

namespace Go.Proofs.YtdlbmbijobcljaaDoor.X
open Go.RowKit Go.Proofs.YtdlbmbijobcljaaDoorW.PrintWords Go.Proofs.YtdlbmbijobcljaaDoorW.PrintLast Go.Proofs.YtdlbmbijobcljaaDoorW.PrintMore
set_option linter.unusedVariables false
set_option linter.unusedSimpArgs false

/-- The element of the extended table of cosines, for j that is not negative. -/
def cosv (j : Int) : Int :=
  if j % 256 ≤ 64 then rd tabL (j % 256) else if j % 256 ≤ 128 then -(rd tabL (128 - j % 256)) else if j % 256 ≤ 192 then -(rd tabL (j % 256 - 128)) else rd tabL (256 - j % 256)
def feature_cosine.f (a0 : Int) : Option Int := if 0 ≤ a0 then some (cosv a0) else none
def earshotref03_C.f (a0 : Int) : Option Int := if 0 ≤ a0 then some (cosv a0) else none
theorem tab_range (i : Int) : 0 ≤ rd tabL i ∧ rd tabL i ≤ 16384 := by
  have h : ∀ x ∈ tabL, 0 ≤ x ∧ x ≤ 16384 := by decide +kernel
  unfold rd
  rw [List.getD_eq_getElem?_getD]
  rcases Nat.lt_or_ge i.toNat tabL.length with hl | hl
  · rw [List.getElem?_eq_getElem hl]; exact h _ (List.getElem_mem hl)
  · rw [List.getElem?_eq_none hl]; simp
theorem tab_cell {w : World} (ht : Kd.C (Kd.int .i64) w (some ⟨0, 0, none⟩) 65 tabL) (i : Int) (h0 : 0 ≤ i) (h1 : i ≤ 64) : w.cell? ⟨0, i.toNat, none⟩ = some (.int .i64 (rd tabL i)) := by
  obtain ⟨ad, e, hc⟩ := Kd.at_int ht i h0 (by omega)
  cases e
  rwa [add_plain] at hc
set_option maxHeartbeats 4000000 in
set_option maxRecDepth 100000 in
theorem feature_cosine.calls (a0 : Int) (r : Int) (w : World) (ht : Kd.C (Kd.int .i64) w (some ⟨0, 0, none⟩) 65 tabL) (h : feature_cosine.f a0 = some r) :
    Calls Tryd.prog 81 #[.int .i64 a0] w fun e w' => e = .returned (.int .i64 r) ∧ Drawn0 w w' := by
  unfold feature_cosine.f at h
  by_cases h0 : 0 ≤ a0
  · rw [if_pos h0] at h
    obtain rfl := Option.some.inj h
    clear h
    have m0 : 0 ≤ a0 % 256 := by omega
    have m1 : a0 % 256 < 256 := by omega
    unfold cosv
    by_cases c0 : a0 % 256 ≤ 64
    · rw [if_pos c0]
      have hb := tab_range (a0 % 256)
      have hc := tab_cell ht (a0 % 256) (by omega) (by omega)
      clear ht
      go_enter Tryd.func81, Tryd.ntmps81
      go_wp2
      go_ret
      exact ⟨rfl, Drawn0.refl _⟩
    · rw [if_neg c0]
      by_cases c1 : a0 % 256 ≤ 128
      · rw [if_pos c1]
        have hb := tab_range (128 - a0 % 256)
        have hc := tab_cell ht (128 - a0 % 256) (by omega) (by omega)
        clear ht
        go_enter Tryd.func81, Tryd.ntmps81
        go_wp2
        go_ret
        exact ⟨rfl, Drawn0.refl _⟩
      · rw [if_neg c1]
        by_cases c2 : a0 % 256 ≤ 192
        · rw [if_pos c2]
          have hb := tab_range (a0 % 256 - 128)
          have hc := tab_cell ht (a0 % 256 - 128) (by omega) (by omega)
          clear ht
          go_enter Tryd.func81, Tryd.ntmps81
          go_wp2
          go_ret
          exact ⟨rfl, Drawn0.refl _⟩
        · rw [if_neg c2]
          have hb := tab_range (256 - a0 % 256)
          have hc := tab_cell ht (256 - a0 % 256) (by omega) (by omega)
          clear ht
          go_enter Tryd.func81, Tryd.ntmps81
          go_wp2
          go_ret
          exact ⟨rfl, Drawn0.refl _⟩
  · rw [if_neg h0] at h
    exact absurd h (by simp)
set_option maxHeartbeats 4000000 in
set_option maxRecDepth 100000 in
theorem earshotref03_C.calls (a0 : Int) (r : Int) (w : World) (ht : Kd.C (Kd.int .i64) w (some ⟨0, 0, none⟩) 65 tabL) (h : earshotref03_C.f a0 = some r) :
    Calls Tryd.prog 48 #[.int .i64 a0] w fun e w' => e = .returned (.int .i64 r) ∧ Drawn0 w w' := by
  unfold earshotref03_C.f at h
  by_cases h0 : 0 ≤ a0
  · rw [if_pos h0] at h
    obtain rfl := Option.some.inj h
    clear h
    have m0 : 0 ≤ a0 % 256 := by omega
    have m1 : a0 % 256 < 256 := by omega
    unfold cosv
    by_cases c0 : a0 % 256 ≤ 64
    · rw [if_pos c0]
      have hb := tab_range (a0 % 256)
      have hc := tab_cell ht (a0 % 256) (by omega) (by omega)
      clear ht
      go_enter Tryd.func48, Tryd.ntmps48
      go_wp2
      go_ret
      exact ⟨rfl, Drawn0.refl _⟩
    · rw [if_neg c0]
      by_cases c1 : a0 % 256 ≤ 128
      · rw [if_pos c1]
        have hb := tab_range (128 - a0 % 256)
        have hc := tab_cell ht (128 - a0 % 256) (by omega) (by omega)
        clear ht
        go_enter Tryd.func48, Tryd.ntmps48
        go_wp2
        go_ret
        exact ⟨rfl, Drawn0.refl _⟩
      · rw [if_neg c1]
        by_cases c2 : a0 % 256 ≤ 192
        · rw [if_pos c2]
          have hb := tab_range (a0 % 256 - 128)
          have hc := tab_cell ht (a0 % 256 - 128) (by omega) (by omega)
          clear ht
          go_enter Tryd.func48, Tryd.ntmps48
          go_wp2
          go_ret
          exact ⟨rfl, Drawn0.refl _⟩
        · rw [if_neg c2]
          have hb := tab_range (256 - a0 % 256)
          have hc := tab_cell ht (256 - a0 % 256) (by omega) (by omega)
          clear ht
          go_enter Tryd.func48, Tryd.ntmps48
          go_wp2
          go_ret
          exact ⟨rfl, Drawn0.refl _⟩
  · rw [if_neg h0] at h
    exact absurd h (by simp)
end Go.Proofs.YtdlbmbijobcljaaDoor.X

-- By a program of this session's own (wip/print), after the kit's print.
namespace Go.Proofs.YtdlbmbijobcljaaDoor.X
open Go.RowKit Go.Proofs.YtdlbmbijobcljaaDoorW.PrintWords Go.Proofs.YtdlbmbijobcljaaDoorW.PrintLast Go.Proofs.YtdlbmbijobcljaaDoorW.PrintMore
attribute [local go_sem] max2_int min2_int max_two min_two max_three min_three max_four min_four   -- for this text's walks alone
set_option linter.unusedVariables false
set_option linter.unusedSimpArgs false

/-! ### feature_transform: function 84 -/
mutual
def feature_transform.l0 : Nat → List Int → Int → List Int → Int → Int → Option (List Int)
 | 0, _, _, _, _, _ => none
 | k + 1, x0, x3, x4, x13, x14 => if x14 < x13 then (feature_transform.l1 k x0 x3 x4 x14 x13 x14 x0 (x0.length : Int) 0) else (some x4)
def feature_transform.l1 : Nat → List Int → Int → List Int → Int → Int → Int → List Int → Int → Int → Option (List Int)
 | 0, _, _, _, _, _, _, _, _, _ => none
 | k + 1, x0, x3, x4, x5, x13, x14, x17, x18, x19 => if x19 < x18 then (if 0 ≤ x19 then (if x19 < (x17.length : Int) then (if 0 ≤ x5 then (if x5 < (x4.length : Int) then (if x3 = 0 then (none) else ((feature_cosine.f (wrap64 (Int.tdiv (wrap64 ((wrap64 ((wrap64 ((wrap64 (2 * x19)) + 1)) * x5)) * 64)) x3))).bind fun t106 => (feature_transform.l1 k x0 x3 (x4.set (x5 : Int).toNat (wrap64 ((rd x4 x5) + (wrap64 ((rd x17 x19) * t106))))) x5 x13 x14 x17 x18 (wrap64 (x19 + 1))))) else (none)) else (none)) else (none)) else (none)) else (feature_transform.l0 k x0 x3 x4 x13 (wrap64 (x14 + 1)))
end
def feature_transform.f (k : Nat) (l0 : List Int) : Option (List Int) := if 0 ≤ (l0.length : Int) then (if ((l0.length : Int) : Int).toNat ≤ 35184372088832 then ((some (List.replicate ((l0.length : Int) : Int).toNat 0 : List Int)).bind fun y101 => (feature_transform.l0 k l0 (l0.length : Int) y101 (y101.length : Int) 0)) else (none)) else (none)
theorem feature_transform.mono_l : ∀ k, (∀ y0 y1 y2 y3 y4, LeO (feature_transform.l0 k y0 y1 y2 y3 y4) (feature_transform.l0 (k + 1) y0 y1 y2 y3 y4)) ∧ (∀ y0 y1 y2 y3 y4 y5 y6 y7 y8, LeO (feature_transform.l1 k y0 y1 y2 y3 y4 y5 y6 y7 y8) (feature_transform.l1 (k + 1) y0 y1 y2 y3 y4 y5 y6 y7 y8))
 | 0 => ⟨fun _ _ _ _ _ r h => by simp [feature_transform.l0] at h, fun _ _ _ _ _ _ _ _ _ r h => by simp [feature_transform.l1] at h⟩
 | k + 1 => by
  obtain ⟨ih0, ih1⟩ := feature_transform.mono_l k
  refine ⟨?_, ?_⟩
  ·intro y0 y1 y2 y3 y4
   unfold feature_transform.l0
   repeat' first
   | (with_reducible exact ih0 _ _ _ _ _)
   | (with_reducible exact ih1 _ _ _ _ _ _ _ _ _)
   | (with_reducible exact LeO.refl _)
   | (with_reducible exact LeO.none _)
   | (with_reducible refine LeO.ite ?_ ?_)
   | (with_reducible refine LeO.bind ?_ (fun _ => ?_))
   | exact ih0 _ _ _ _ _
   | exact ih1 _ _ _ _ _ _ _ _ _
   | exact LeO.none _
   | refine LeO.ite ?_ ?_
   | refine LeO.bind ?_ (fun _ => ?_)
  ·intro y0 y1 y2 y3 y4 y5 y6 y7 y8
   unfold feature_transform.l1
   repeat' first
   | (with_reducible exact ih0 _ _ _ _ _)
   | (with_reducible exact ih1 _ _ _ _ _ _ _ _ _)
   | (with_reducible exact LeO.refl _)
   | (with_reducible exact LeO.none _)
   | (with_reducible refine LeO.ite ?_ ?_)
   | (with_reducible refine LeO.bind ?_ (fun _ => ?_))
   | exact ih0 _ _ _ _ _
   | exact ih1 _ _ _ _ _ _ _ _ _
   | exact LeO.none _
   | refine LeO.ite ?_ ?_
   | refine LeO.bind ?_ (fun _ => ?_)
theorem feature_transform.mono : ∀ a0 k, LeO (feature_transform.f k a0) (feature_transform.f (k + 1) a0) := by
 intro a0 k
 obtain ⟨ih0, ih1⟩ := feature_transform.mono_l k
 unfold feature_transform.f
 repeat' first
   | (with_reducible exact ih0 _ _ _ _ _)
   | (with_reducible exact ih1 _ _ _ _ _ _ _ _ _)
   | (with_reducible exact LeO.refl _)
   | (with_reducible exact LeO.none _)
   | (with_reducible refine LeO.ite ?_ ?_)
   | (with_reducible refine LeO.bind ?_ (fun _ => ?_))
   | exact ih0 _ _ _ _ _
   | exact ih1 _ _ _ _ _ _ _ _ _
   | exact LeO.none _
   | refine LeO.ite ?_ ?_
   | refine LeO.bind ?_ (fun _ => ?_)
def feature_transform.T9 : Bool × List (List Nat × List Nat) := (true, [([], []), ([], []), ([0, 1], [0, 1]), ([2], [2]), ([], []), ([], []), ([5], [5]), ([6], [6]), ([], []), ([7, 8], [7, 8]), ([9], [9]), ([], []), ([10, 11], [10, 11]), ([12], [12]), ([4, 13], [4, 13]), ([3, 14], [3, 14]), ([0, 1, 0, 1, 2, 3, 4, 5, 6, 7, 8, 9, 10, 11, 12, 13, 14, 15], [0, 1]), ([16, 15, 13, 0, 1, 2, 3, 4, 5, 6, 7, 8, 9, 10, 11, 12, 13, 14, 15], [15, 16])])
def feature_transform.B9 : List Nat := [0, 0, 3, 7, 0, 0, 32, 96, 0, 480, 992, 0, 4064, 8160, 16368, 32767, 65535, 131071]
theorem feature_transform.tab9 : rtab .any (opsOf Tryd.f84 9) = feature_transform.T9 := by kernel_rfl
theorem feature_transform.bits9 : waitsOk feature_transform.T9.2 feature_transform.B9 = true := by kernel_rfl
set_option maxHeartbeats 8000000 in
set_option maxRecDepth 100000 in
theorem feature_transform.calls (k : Nat) (A0 : Option Addr) (c0 : Nat) (l0 : List Int) (r : List Int) (w : World) (ht : Kd.C (Kd.int .i64) w (some ⟨0, 0, none⟩) 65 tabL) (hr0 : Kd.C (Kd.int .i64) w A0 l0.length l0) (hc0 : l0.length ≤ c0) (h : feature_transform.f k l0 = some r) :
  Calls Tryd.prog 84 #[.slice A0 l0.length c0] w fun e w' => ∃ v0_ : Value, e = .returned (v0_) ∧ Kd.R (Kd.int .i64) 3 w' w.heap.size (fun _ => True) v0_ r ∧ Below w.heap.size w w' := by
 have HRT := Aside0.mk ht
 clear ht
 have HR0 := Aside0.mk hr0
 have HC0 := Aside0.mk hc0
 clear hr0 hc0
 have HB := Aside0.mk (Below.refl w.heap.size w)
 have H : (if 0 ≤ (l0.length : Int) then (if ((l0.length : Int) : Int).toNat ≤ 35184372088832 then ((some (List.replicate ((l0.length : Int) : Int).toNat 0 : List Int)).bind fun y101 => (feature_transform.l0 k l0 (l0.length : Int) y101 (y101.length : Int) 0)) else (none)) else (none)) = some r := h
 clear h
 by_cases c2 : 0 ≤ (l0.length : Int)
 ·rw [if_pos c2] at H
  have c2b0 := eq_true c2
  have c2b1 := decide_eq_true c2
  clear c2
  by_cases c3 : ((l0.length : Int) : Int).toNat ≤ 35184372088832
  ·rw [if_pos c3] at H
   have c3b0 := eq_true c3
   have c3b1 := decide_eq_true c3
   clear c3
   obtain ⟨y101, hy101⟩ : ∃ y_ : List Int, y_ = (List.replicate ((l0.length : Int) : Int).toNat 0) := ⟨_, rfl⟩
   replace H : (feature_transform.l0 k l0 (l0.length : Int) y101 (y101.length : Int) 0) = some r := by first | (rw [hy101]; with_reducible exact H) | (have H2_ := (Option.bind_some _ _).symm.trans H; rw [hy101]; with_reducible exact H2_) | (have H2_ := (Option.bind_some _ _).symm.trans H; with_reducible exact H2_) | with_reducible exact H | (rw [hy101]; exact H) | exact H
   have Ny101 := Aside0.mk hy101
   clear hy101
   have H' := Aside0.mk H
   clear H
   go_enter Tryd.func84, Tryd.ntmps84
   go_wp2_with (first | ((with_reducible refine gate_dst (N := 11) rfl ?_); refine Kd.R_make (Kd.int .i64) _ 3 rfl (N := 11) rfl 22 _ _ rfl (l0.length : Int) rfl rfl Tryd.underlying22 (.int .i64 0) 8 info3 rfl (by decide) (by omega) 0 (ok := fun _ => True) (okp := fun _ => True) rfl (fun _ hk => hk) trivial (of_decide_eq_true tA) (Nat.le_trans (Nat.mul_le_mul_right _ (of_decide_eq_true tA : (l0.length : Int).toNat ≤ 35184372088832)) (by omega)) (Below.refl _ _) (Nat.le_refl _) ?_; intro v102 w4 ho5 hb hg_ hnew_; clear hg_ hnew_; (first | rw [← Ny101.out] at ho5 | (simp only [Int.reduceToNat] at ho5; rw [← Ny101.out] at ho5)); have HO103 := Aside0.mk (Kd.R_lower ho5 (below_size tB)); replace HB := Aside0.mk (below_step tB hb); clear hb ho5; obtain ⟨Ao6, co6, eo6⟩ := Kd.R_slice HO103.out; subst eo6))
   go_loopg [14] k (fun kq v14 w' => ∃ (x4_1 : List Int) (x14_1 : Int), v14 = .int .i64 x14_1 ∧ Aside0 (feature_transform.l0 kq l0 (l0.length : Int) x4_1 (y101.length : Int) x14_1 = some r) ∧ Aside0 (kq ≤ k) ∧ Aside0 (Kd.R (Kd.int .i64) 3 w' w.heap.size (fun _ => True) (.slice Ao6 y101.length co6) x4_1) ∧ Aside0 (Below w.heap.size w w'))
   case atStart => exact ⟨(y101), (0), (by first | rfl | (simp; done) | (simp only [i64_w]; done) | (simp [*]; done)), H', ⟨Nat.le_refl _⟩, ⟨tR HO103.out⟩, ⟨tB⟩⟩
   case round =>
    clear H'
    try clear c2
    try clear c2b0
    try clear c2b1
    try clear p2
    try clear c3
    try clear c3b0
    try clear c3b1
    obtain ⟨x4_1, x14_1, rfl, HA, HK1, HO_4, HB⟩ := hrel
    have hl4_1 := (Kd.R_reads' HO_4.out).1
    rw [hl4_1] at HO_4
    (try simp only [hl4_1])
    cases gk with
    | zero => exact absurd HA.out (by simp [feature_transform.l0])
    | succ k1 =>
     have H := HA.out
     clear HA
     simp only [feature_transform.l0] at H
     by_cases c7 : x14_1 < (y101.length : Int)
     ·rw [if_pos c7] at H
      have c7b0 := decide_eq_true c7
      (try simp only [hl4_1] at c7b0)
      clear c7
      have H' := Aside0.mk H
      clear H
      go_wp2
      go_loopg [19] k1 (fun kq v19 w' => ∃ (x4_2 : List Int) (x19_2 : Int), v19 = .int .i64 x19_2 ∧ Aside0 (feature_transform.l1 kq l0 (l0.length : Int) x4_2 x14_1 (y101.length : Int) x14_1 l0 (l0.length : Int) x19_2 = some r) ∧ Aside0 (kq ≤ k1) ∧ Aside0 (Kd.R (Kd.int .i64) 3 w' w.heap.size (fun _ => True) (.slice Ao6 x4_1.length co6) x4_2) ∧ Aside0 (Below w.heap.size w w'))
      case atStart => exact ⟨(x4_1), (0), (by first | rfl | (simp; done) | (simp only [i64_w]; done) | (simp [*]; done)), H', ⟨Nat.le_refl _⟩, ⟨by (try simp only [hl4_1]); exact tR HO_4.out⟩, ⟨tB⟩⟩
      case round =>
       clear H'
       try clear c2
       try clear c2b0
       try clear c2b1
       try clear p2
       try clear c3
       try clear c3b0
       try clear c3b1
       try clear c7
       try clear c7b0
       try clear p2
       obtain ⟨x4_2, x19_2, rfl, HA, HK2, HO_4, HB⟩ := hrel
       have hl4_2 := (Kd.R_reads' HO_4.out).1
       rw [hl4_2] at HO_4
       (try simp only [hl4_2])
       cases gk with
       | zero => exact absurd HA.out (by simp [feature_transform.l1])
       | succ k2 =>
        have H := HA.out
        clear HA
        simp only [feature_transform.l1] at H
        by_cases c8 : x19_2 < (l0.length : Int)
        ·rw [if_pos c8] at H
         have c8b0 := decide_eq_true c8
         (try simp only [hl4_1, hl4_2] at c8b0)
         clear c8
         by_cases c9 : 0 ≤ x19_2
         ·rw [if_pos c9] at H
          have c9b0 := decide_eq_true c9
          clear c9
          by_cases c10 : x19_2 < (l0.length : Int)
          ·rw [if_pos c10] at H
           have c10b0 := decide_eq_true c10
           (try simp only [hl4_1, hl4_2] at c10b0)
           clear c10
           by_cases c11 : 0 ≤ x14_1
           ·rw [if_pos c11] at H
            have c11b0 := decide_eq_true c11
            clear c11
            by_cases c12 : x14_1 < (x4_2.length : Int)
            ·rw [if_pos c12] at H
             have c12b0 := decide_eq_true c12
             (try simp only [hl4_1, hl4_2] at c12b0)
             clear c12
             by_cases c13 : (l0.length : Int) = 0
             ·rw [if_pos c13] at H
              exact absurd H (by simp)
             ·rw [if_neg c13] at H
              have c13b0 : ((l0.length : Int) == 0) = false := beq_eq_false_iff_ne.mpr c13
              (try simp only [hl4_1, hl4_2] at c13b0)
              have c13b1 : ((l0.length : Int) != 0) = true := bne_iff_ne.mpr c13
              (try simp only [hl4_1, hl4_2] at c13b1)
              have c13b2 : ¬ (l0 = []) := fun h_ => c13 (by rw [h_]; rfl)
              replace H := Option.bind_eq_some_iff.mp H
              obtain ⟨t106, A140, H⟩ := H
              try dsimp only at H
              have A14 := Aside0.mk A140
              clear A140
              obtain ⟨y107, hy107⟩ : ∃ y_ : List Int, y_ = (x4_2.set (x14_1 : Int).toNat (wrap64 ((rd x4_2 x14_1) + (wrap64 ((rd l0 x19_2) * t106))))) := ⟨_, rfl⟩
              replace H : (feature_transform.l1 k2 l0 (l0.length : Int) y107 x14_1 (y101.length : Int) x14_1 l0 (l0.length : Int) (wrap64 (x19_2 + 1))) = some r := by first | (rw [hy107]; with_reducible exact H) | (have H2_ := (Option.bind_some _ _).symm.trans H; rw [hy107]; with_reducible exact H2_) | (have H2_ := (Option.bind_some _ _).symm.trans H; with_reducible exact H2_) | with_reducible exact H | (rw [hy107]; exact H) | exact H
              have Ny107 := Aside0.mk hy107
              clear hy107
              have H' := Aside0.mk H
              clear H
              have p104 : 0 ≤ (x19_2 : Int) := of_decide_eq_true tA
              have q104 : x19_2 < (l0.length : Int) := of_decide_eq_true tA
              obtain ⟨ad104, e104, hx104_0⟩ := Kd.at_int HR0.out x19_2 p104 q104
              cases e104
              replace hx104_0 := (HB.out.cell (World.block_lt_of_cell? w _ hx104_0)).trans hx104_0
              replace p104 := eq_true p104
              replace q104 := eq_true q104
              try go_wp2
              replace HO_4 := Aside0.mk (Kd.R_drew HO_4.out)
              replace HB := Aside0.mk (below_drew1 HB.out)
              have p105 : 0 ≤ (x14_1 : Int) := of_decide_eq_true tA
              have q105 : x14_1 < (x4_2.length : Int) := of_decide_eq_true tA
              obtain ⟨ad105, e105, hx105_0⟩ := Kd.at_int (Kd.R_reads' HO_4.out).2.2 x14_1 p105 q105
              cases e105
              replace p105 := eq_true p105
              replace q105 := eq_true q105
              refine start_ (n := 18) (S := fun w' => w'.cell? (ad105.add (x14_1).toNat) = some (.int .i64 (rd x4_2 x14_1))) (ds := [17]) (bm 0 18) (by kernel_rfl) rfl rfl (hx105_0) (fun hHeld => ?_); refine with_tabW feature_transform.tab9 feature_transform.bits9 (fun HT_ HW_ => ?_)
              generalize wr.drew = w16 at HO_4 HB hx105_0 hHeld ⊢
              refine pI 0 (some 24) (bm 1 18) HT_.out ?_
              refine pI 1 (some 25) (bm 2 18) HT_.out ?_
              refine pI 2 (some 26) (bm 3 18) HT_.out ?_
              refine pI 4 (some 28) (bq 23 18) HT_.out ?_
              refine pI 5 (some 29) (bq 55 18) HT_.out ?_
              refine pI 6 (some 30) (bq 119 18) HT_.out ?_
              refine pI 7 (some 31) (bq 247 18) HT_.out ?_
              refine pI 8 (some 32) (bq 503 18) HT_.out ?_
              refine pI 9 (some 33) (bq 1015 18) HT_.out ?_
              refine pI 10 (some 34) (bq 2039 18) HT_.out ?_
              refine pI 11 (some 35) (bq 4087 18) HT_.out ?_
              refine pI 12 (some 36) (bq 8183 18) HT_.out ?_
              refine tk1 3 (some 27) (bm 13 18) HT_.out HW_.out hHeld ?_
              refine one_ (i := 13) (N := some 37) (bm 14 18) rfl rfl (one_of HT_.out (by kernel_rfl)) (by decide) (fun K hK => ?_)
              refine goes_ Tryd.func81 (by kernel_rfl) rfl #[.int .i64 (wrap64 (Int.tdiv (wrap64 ((wrap64 ((wrap64 ((wrap64 (2 * x19_2)) + 1)) * x14_1)) * 64)) (l0.length : Int)))] (by rfl) rfl rfl tL ?_
              with_reducible refine (feature_cosine.calls (wrap64 (Int.tdiv (wrap64 ((wrap64 ((wrap64 ((wrap64 (2 * x19_2)) + 1)) * x14_1)) * 64)) (l0.length : Int))) t106 _ ?side1 A14.out).mono ?_
              (case side1 => exact tC (Kd.C_below HRT.out HB.out))
              rintro e w' ⟨rfl, ⟨nd, rfl⟩⟩
              refine ⟨_, rfl, ?_⟩
              have p15 : 0 ≤ (x14_1 : Int) := of_decide_eq_true tA
              have q15 : (x14_1 : Int) < ((x4_2.length : Int) : Int) := of_decide_eq_true tA
              obtain ⟨go15, co15, eo15, gb15, gl15, cl15, HG15⟩ := Kd.R_form HO_4.out (by omega)
              (first | cases eo15 | (injection eo15 with ea_ en_ ec_; (first | subst ea_ | (injection ea_ with ea_; subst ea_)); subst ec_; clear en_))
              have GB15 := Aside0.mk gb15
              have GG15 := Aside0.mk HG15
              clear gb15 gl15 HG15
              (first | simp only [add_plain] at hx105_0 | skip)
              obtain ⟨hx15_0, hf15_0⟩ := Kd.R_celln 0 HO_4.out (x14_1 : Int) p15 q15
              replace p15 := eq_true p15
              replace q15 := eq_true q15
              have HP17 := Kd.R_putn HO_4.out (x14_1 : Int) (wrap64 ((rd x4_2 x14_1) + (wrap64 ((rd l0 x19_2) * t106))))
              rw [← Ny107.out] at HP17
              have HQ17 := Aside0.mk HP17
              clear HP17
              refine hK.out _ _ (hHeld) (fun hHeld => ?_)
              clear hK K
              refine nm ?_
              refine pI 14 (some 38) (bm 15 18) HT_.out ?_
              refine pI 15 (some 39) (bm 16 18) HT_.out ?_
              refine pI 16 (some 40) (bm 17 18) HT_.out ?_
              refine last_ (i := 17) (N := none) (bm 18 18) rfl rfl (one_of HT_.out (by kernel_rfl)) (by decide) (fun K hK => ?_)
              refine skip_ (w1 := ?_) (by rfl) rfl ?_ ?_
              rotate_left
              ·go_simp
               rfl
              refine hK.out _ _ ?_
              clear hK K
              refine done_ (done_of HT_.out (by kernel_rfl)) ?_
              try go_wp2
              (try simp only [← hl4_2])
              go_roundg k2
              case measure => have := HK1.out; have := HK2.out; omega
              case rel => exact ⟨(y107), (wrap64 (x19_2 + 1)), (by first | rfl | (simp; done) | (simp only [i64_w]; done) | (simp [*]; done)), H', ⟨by have := HK1.out; have := HK2.out; omega⟩, ⟨by (try simp only [hl4_1]); (try simp only [hl4_2]); exact tR HQ17.out⟩, ⟨by repeat (first | (with_reducible first | exact HB.out | apply below_alloc | apply pw_below_drewN | apply below_drew1 | refine below_set ?_ GB15.out) | exact HB.out)⟩⟩
            ·rw [if_neg c12] at H
             exact absurd H (by simp)
           ·rw [if_neg c11] at H
            exact absurd H (by simp)
          ·rw [if_neg c10] at H
           exact absurd H (by simp)
         ·rw [if_neg c9] at H
          exact absurd H (by simp)
        ·rw [if_neg c8] at H
         have c8b0 := decide_eq_false c8
         (try simp only [hl4_1, hl4_2] at c8b0)
         clear c8
         have H' := Aside0.mk H
         clear H
         go_wp2
         (try simp only [← hl4_1, ← hl4_2])
         go_roundg k2
         case measure => have := HK1.out; have := HK2.out; omega
         case rel => exact ⟨(x4_2), (wrap64 (x14_1 + 1)), (by first | rfl | (simp; done) | (simp only [i64_w]; done) | (simp [*]; done)), H', ⟨by have := HK1.out; have := HK2.out; omega⟩, ⟨by (try simp only [hl4_1]); (try simp only [hl4_2]); exact tR HO_4.out⟩, ⟨tB⟩⟩
     ·rw [if_neg c7] at H
      have c7b0 := decide_eq_false c7
      (try simp only [hl4_1] at c7b0)
      clear c7
      obtain rfl := Option.some.inj H
      go_wp2
      go_ret
      exact ⟨_, by first | rfl | (simp [errW_none, errW_some] <;> rfl) | (simp [*, errW_none, errW_some] <;> rfl), tR HO_4.out, tB⟩
  ·rw [if_neg c3] at H
   exact absurd H (by simp)
 ·rw [if_neg c2] at H
  exact absurd H (by simp)

end Go.Proofs.YtdlbmbijobcljaaDoor.X

-- By a program of this session's own (wip/print), after the kit's print.
namespace Go.Proofs.YtdlbmbijobcljaaDoor.X
open Go.RowKit Go.Proofs.YtdlbmbijobcljaaDoorW.PrintWords Go.Proofs.YtdlbmbijobcljaaDoorW.PrintLast Go.Proofs.YtdlbmbijobcljaaDoorW.PrintMore
attribute [local go_sem] max2_int min2_int max_two min_two max_three min_three max_four min_four   -- for this text's walks alone
set_option linter.unusedVariables false
set_option linter.unusedSimpArgs false

/-! ### feature_Transform: function 29 -/
def feature_Transform.f (k : Nat) (l0 : List Int) : Option (List Int × Int) := (feature_possible.f (l0.length : Int)).bind fun t101 => (if t101 = true then ((feature_within.f l0 65536).bind fun t102 => (if t102 = true then ((feature_transform.f k l0).bind fun t103 => (some (t103, 0))) else (some (([] : List Int), 2)))) else (some (([] : List Int), 2)))
theorem feature_Transform.mono : ∀ a0 k, LeO (feature_Transform.f k a0) (feature_Transform.f (k + 1) a0) := by
 intro a0 k
 unfold feature_Transform.f
 repeat' first
   | (with_reducible exact feature_transform.mono _ _)
   | (with_reducible exact LeO.refl _)
   | (with_reducible exact LeO.none _)
   | (with_reducible refine LeO.ite ?_ ?_)
   | (with_reducible refine LeO.bind ?_ (fun _ => ?_))
   | exact feature_transform.mono _ _
   | exact LeO.none _
   | refine LeO.ite ?_ ?_
   | refine LeO.bind ?_ (fun _ => ?_)
set_option maxHeartbeats 8000000 in
set_option maxRecDepth 100000 in
theorem feature_Transform.calls (k : Nat) (A0 : Option Addr) (c0 : Nat) (l0 : List Int) (r1 : List Int) (r2 : Int) (w : World) (ht : Kd.C (Kd.int .i64) w (some ⟨0, 0, none⟩) 65 tabL) (hr0 : Kd.C (Kd.int .i64) w A0 l0.length l0) (hc0 : l0.length ≤ c0) (h : feature_Transform.f k l0 = some (r1, r2)) :
  Calls Tryd.prog 29 #[.slice A0 l0.length c0] w fun e w' => ∃ v0_ : Value, e = .returned (.tuple #[v0_, .int .i64 r2]) ∧ Kd.R (Kd.int .i64) 3 w' w.heap.size (fun _ => True) v0_ r1 ∧ Below w.heap.size w w' := by
 have HRT := Aside0.mk ht
 clear ht
 have HR0 := Aside0.mk hr0
 have HC0 := Aside0.mk hc0
 clear hr0 hc0
 have HB := Aside0.mk (Below.refl w.heap.size w)
 have H : ((feature_possible.f (l0.length : Int)).bind fun t101 => (if t101 = true then ((feature_within.f l0 65536).bind fun t102 => (if t102 = true then ((feature_transform.f k l0).bind fun t103 => (some (t103, 0))) else (some (([] : List Int), 2)))) else (some (([] : List Int), 2)))) = some (r1, r2) := h
 clear h
 replace H := Option.bind_eq_some_iff.mp H
 obtain ⟨t101, A20, H⟩ := H
 try dsimp only at H
 have A2 := Aside0.mk A20
 clear A20
 by_cases c3 : t101 = true
 ·subst c3
  have H1 : ((feature_within.f l0 65536).bind fun t102 => (if t102 = true then ((feature_transform.f k l0).bind fun t103 => (some (t103, 0))) else (some (([] : List Int), 2)))) = some (r1, r2) := by rw [if_pos rfl] at H; exact H
  clear H
  have H := H1
  clear H1
  replace H := Option.bind_eq_some_iff.mp H
  obtain ⟨t102, A40, H⟩ := H
  try dsimp only at H
  have A4 := Aside0.mk A40
  clear A40
  by_cases c5 : t102 = true
  ·subst c5
   have H1 : ((feature_transform.f k l0).bind fun t103 => (some (t103, 0))) = some (r1, r2) := by rw [if_pos rfl] at H; exact H
   clear H
   have H := H1
   clear H1
   replace H := Option.bind_eq_some_iff.mp H
   obtain ⟨t103, A60, H⟩ := H
   try dsimp only at H
   have A6 := Aside0.mk A60
   clear A60
   simp only [Option.some.injEq, Prod.mk.injEq] at H
   obtain ⟨rfl, rfl⟩ := H
   go_enter Tryd.func29, Tryd.ntmps29
   go_wp2_with (first | ((with_reducible refine gate_callee (f := 79) rfl ?_); refine goesL_ (some 6) rfl rfl Tryd.func79 (by kernel_rfl) rfl #[.int .i64 (l0.length : Int)] rfl tL ?_; (with_reducible refine (feature_possible.calls (l0.length : Int) true _ A2.out).mono ?_); rintro e w' ⟨rfl, ⟨nd, rfl⟩⟩; refine ⟨_, rfl, ?_⟩) | (go_at_call 80; (with_reducible refine (feature_within.calls _ _ l0 65536 true _ ?side1 ?side2 A4.out).mono ?_); (case side1 => exact tC HR0.out); (case side2 => exact HC0.out); rintro e w7 ⟨rfl, hb⟩; replace HB := Aside0.mk (below_step tB hb); (try clear hb); (try clear hb2); (try clear hk); (try clear hi)) | ((with_reducible refine gate_callee (f := 84) rfl ?_); refine goesL_ (some 14) rfl rfl Tryd.func84 (by kernel_rfl) rfl #[.slice A0 l0.length c0] rfl tL ?_; (with_reducible refine (feature_transform.calls k _ _ l0 t103 _ ?side3 ?side1 ?side2 A6.out).mono ?_); (case side1 => exact tC (Kd.C_below HR0.out HB.out)); (case side2 => exact HC0.out); (case side3 => exact tC (Kd.C_below HRT.out HB.out)); rintro e w8 ⟨v104, rfl, ho0, hb⟩; refine ⟨_, rfl, ?_⟩; have HO105 := Aside0.mk (Kd.R_lower ho0 (below_size tB)); replace HB := Aside0.mk (below_step tB hb); (try clear hb); (try clear hb2); (try clear hk); (try clear hi); (try clear ho0)))
   go_ret2
   exact ⟨_, by first | rfl | (simp [errW_none, errW_some] <;> rfl) | (simp [*, errW_none, errW_some] <;> rfl), tR HO105.out, tB⟩
  ·replace c5 := Bool.eq_false_iff.mpr c5
   subst c5
   have H1 : (some (([] : List Int), 2)) = some (r1, r2) := by rw [if_neg (show ¬ (false = true) by decide)] at H; exact H
   clear H
   have H := H1
   clear H1
   simp only [Option.some.injEq, Prod.mk.injEq] at H
   obtain ⟨rfl, rfl⟩ := H
   go_enter Tryd.func29, Tryd.ntmps29
   go_wp2_with (first | ((with_reducible refine gate_callee (f := 79) rfl ?_); refine goesL_ (some 6) rfl rfl Tryd.func79 (by kernel_rfl) rfl #[.int .i64 (l0.length : Int)] rfl tL ?_; (with_reducible refine (feature_possible.calls (l0.length : Int) true _ A2.out).mono ?_); rintro e w' ⟨rfl, ⟨nd, rfl⟩⟩; refine ⟨_, rfl, ?_⟩) | (go_at_call 80; (with_reducible refine (feature_within.calls _ _ l0 65536 false _ ?side1 ?side2 A4.out).mono ?_); (case side1 => exact tC HR0.out); (case side2 => exact HC0.out); rintro e w9 ⟨rfl, hb⟩; replace HB := Aside0.mk (below_step tB hb); (try clear hb); (try clear hb2); (try clear hk); (try clear hi)))
   go_ret2
   exact ⟨_, by first | rfl | (simp [errW_none, errW_some] <;> rfl) | (simp [*, errW_none, errW_some] <;> rfl), by first | exact Kd.R_nil _ _ _ _ _ | exact Kd.N_nil _ _ _ _ _ | exact Kd.V_nil _ _ _ _ _ | exact Kd.Q_nil _ _ _ _ _ | exact Kd.S_nil _ _ _ _ _, tB⟩
 ·replace c3 := Bool.eq_false_iff.mpr c3
  subst c3
  have H1 : (some (([] : List Int), 2)) = some (r1, r2) := by rw [if_neg (show ¬ (false = true) by decide)] at H; exact H
  clear H
  have H := H1
  clear H1
  simp only [Option.some.injEq, Prod.mk.injEq] at H
  obtain ⟨rfl, rfl⟩ := H
  go_enter Tryd.func29, Tryd.ntmps29
  go_wp2_with (first | ((with_reducible refine gate_callee (f := 79) rfl ?_); refine goesL_ (some 6) rfl rfl Tryd.func79 (by kernel_rfl) rfl #[.int .i64 (l0.length : Int)] rfl tL ?_; (with_reducible refine (feature_possible.calls (l0.length : Int) false _ A2.out).mono ?_); rintro e w' ⟨rfl, ⟨nd, rfl⟩⟩; refine ⟨_, rfl, ?_⟩))
  go_ret2
  exact ⟨_, by first | rfl | (simp [errW_none, errW_some] <;> rfl) | (simp [*, errW_none, errW_some] <;> rfl), by first | exact Kd.R_nil _ _ _ _ _ | exact Kd.N_nil _ _ _ _ _ | exact Kd.V_nil _ _ _ _ _ | exact Kd.Q_nil _ _ _ _ _ | exact Kd.S_nil _ _ _ _ _, tB⟩

end Go.Proofs.YtdlbmbijobcljaaDoor.X

-- By a program of this session's own (wip/print), after the kit's print.
namespace Go.Proofs.YtdlbmbijobcljaaDoor.X
open Go.RowKit Go.Proofs.YtdlbmbijobcljaaDoorW.PrintWords Go.Proofs.YtdlbmbijobcljaaDoorW.PrintLast Go.Proofs.YtdlbmbijobcljaaDoorW.PrintMore
attribute [local go_sem] max2_int min2_int max_two min_two max_three min_three max_four min_four   -- for this text's walks alone
set_option linter.unusedVariables false
set_option linter.unusedSimpArgs false

/-! ### feature_far: function 82 -/
def feature_far.f : Nat → Int → Int → Option (Int)
 | 0, _, _ => none
 | k + 1, a0, a1 => if a0 < 0 then ((feature_far.f k (wrap64 (-a0)) a1).bind fun t101 => (some (wrap64 (-t101)))) else (if a1 = 0 then (none) else (if (Int.tmod a0 a1) ≥ (wrap64 (a1 - (Int.tmod a0 a1))) then (some (wrap64 ((wrap64 (Int.tdiv a0 a1)) + 1))) else (some (wrap64 (Int.tdiv a0 a1)))))
theorem feature_far.mono_l : ∀ k, (∀ y0 y1, LeO (feature_far.f k y0 y1) (feature_far.f (k + 1) y0 y1))
 | 0 => fun _ _ r h => by simp [feature_far.f] at h
 | k + 1 => by
  have ih0 := feature_far.mono_l k
  ·intro y0 y1
   unfold feature_far.f
   repeat' first
   | (with_reducible exact ih0 _ _)
   | (with_reducible exact LeO.refl _)
   | (with_reducible exact LeO.none _)
   | (with_reducible refine LeO.ite ?_ ?_)
   | (with_reducible refine LeO.bind ?_ (fun _ => ?_))
   | exact ih0 _ _
   | exact LeO.none _
   | refine LeO.ite ?_ ?_
   | refine LeO.bind ?_ (fun _ => ?_)
theorem feature_far.mono : ∀ a0 a1 k, LeO (feature_far.f k a0 a1) (feature_far.f (k + 1) a0 a1) := by
 intro a0 a1 k
 have ih0 := feature_far.mono_l k
 exact ih0 a0 a1
set_option maxHeartbeats 8000000 in
set_option maxRecDepth 100000 in
theorem feature_far.calls (k : Nat) : ∀ (a0 : Int) (a1 : Int) (r : Int) (w : World) (h : feature_far.f k a0 a1 = some r),
  Calls Tryd.prog 82 #[.int .i64 a0, .int .i64 a1] w fun e w' => e = .returned (.int .i64 r) ∧ Drawn0 w w' := by
 induction k using Nat.strongRecOn with
 | _ k ih =>
 intro a0 a1 r w h
 cases k with
 | zero => exact absurd h (by simp [feature_far.f])
 | succ k =>
 simp only [feature_far.f] at h
 have H : (if a0 < 0 then ((feature_far.f k (wrap64 (-a0)) a1).bind fun t101 => (some (wrap64 (-t101)))) else (if a1 = 0 then (none) else (if (Int.tmod a0 a1) ≥ (wrap64 (a1 - (Int.tmod a0 a1))) then (some (wrap64 ((wrap64 (Int.tdiv a0 a1)) + 1))) else (some (wrap64 (Int.tdiv a0 a1)))))) = some r := h
 clear h
 by_cases c3 : a0 < 0
 ·rw [if_pos c3] at H
  have c3b0 := decide_eq_true c3
  clear c3
  replace H := Option.bind_eq_some_iff.mp H
  obtain ⟨t101, A40, H⟩ := H
  try dsimp only at H
  have A4 := Aside0.mk A40
  clear A40
  obtain rfl := Option.some.inj H
  go_enter Tryd.func82, Tryd.ntmps82
  go_wp2_with (first | (go_at_call 82; (with_reducible refine (ih k (by omega) (wrap64 (-a0)) a1 t101 _ A4.out).mono ?_); rintro e w' ⟨rfl, ⟨nd, rfl⟩⟩; (try first | exact ⟨rfl, _, World.drewN_drewN _ _ _⟩ | exact ⟨rfl, _, Eq.trans (World.drewN_drewN _ _ _) (congrArg (World.drewN _) (Nat.add_assoc _ _ _))⟩)))
  repeat (go_quiet (first | (go_at_call 82; (with_reducible refine (ih k (by omega) (wrap64 (-a0)) a1 t101 _ A4.out).mono ?_); rintro e w' ⟨rfl, ⟨nd, rfl⟩⟩; (try first | exact ⟨rfl, _, World.drewN_drewN _ _ _⟩ | exact ⟨rfl, _, Eq.trans (World.drewN_drewN _ _ _) (congrArg (World.drewN _) (Nat.add_assoc _ _ _))⟩))); try go_wp2_with (first | (go_at_call 82; (with_reducible refine (ih k (by omega) (wrap64 (-a0)) a1 t101 _ A4.out).mono ?_); rintro e w' ⟨rfl, ⟨nd, rfl⟩⟩; (try first | exact ⟨rfl, _, World.drewN_drewN _ _ _⟩ | exact ⟨rfl, _, Eq.trans (World.drewN_drewN _ _ _) (congrArg (World.drewN _) (Nat.add_assoc _ _ _))⟩))))
  go_ret
  exact ⟨by first | rfl | (simp; done) | (simp [*]; done), by repeat (first | exact Drawn0.refl _ | apply Drawn0.step)⟩
 ·rw [if_neg c3] at H
  have c3b0 := decide_eq_false c3
  clear c3
  by_cases c5 : a1 = 0
  ·rw [if_pos c5] at H
   exact absurd H (by simp)
  ·rw [if_neg c5] at H
   have c5b0 : (a1 == 0) = false := beq_eq_false_iff_ne.mpr c5
   have c5b1 : (a1 != 0) = true := bne_iff_ne.mpr c5
   by_cases c6 : (Int.tmod a0 a1) ≥ (wrap64 (a1 - (Int.tmod a0 a1)))
   ·rw [if_pos c6] at H
    have c6b0 : decide ((wrap64 (a1 - (Int.tmod a0 a1))) ≤ (Int.tmod a0 a1)) = true := decide_eq_true c6
    clear c6
    obtain rfl := Option.some.inj H
    go_enter Tryd.func82, Tryd.ntmps82
    go_wp2
    repeat (go_quiet (fail); try go_wp2)
    go_ret
    exact ⟨by first | rfl | (simp; done) | (simp [*]; done), by repeat (first | exact Drawn0.refl _ | apply Drawn0.step)⟩
   ·rw [if_neg c6] at H
    have c6b0 : decide ((wrap64 (a1 - (Int.tmod a0 a1))) ≤ (Int.tmod a0 a1)) = false := decide_eq_false c6
    clear c6
    obtain rfl := Option.some.inj H
    go_enter Tryd.func82, Tryd.ntmps82
    go_wp2
    repeat (go_quiet (fail); try go_wp2)
    go_ret
    exact ⟨by first | rfl | (simp; done) | (simp [*]; done), by repeat (first | exact Drawn0.refl _ | apply Drawn0.step)⟩

end Go.Proofs.YtdlbmbijobcljaaDoor.X

-- By a program of this session's own (wip/print), after the kit's print.
namespace Go.Proofs.YtdlbmbijobcljaaDoor.X
open Go.RowKit Go.Proofs.YtdlbmbijobcljaaDoorW.PrintWords Go.Proofs.YtdlbmbijobcljaaDoorW.PrintLast Go.Proofs.YtdlbmbijobcljaaDoorW.PrintMore
attribute [local go_sem] max2_int min2_int max_two min_two max_three min_three max_four min_four   -- for this text's walks alone
set_option linter.unusedVariables false
set_option linter.unusedSimpArgs false

/-! ### feature_Inverse: function 23 -/
mutual
def feature_Inverse.j0 : Nat → List Int → Int → Bool → Option (List Int × Int)
 | 0, _, _, _ => none
 | k + 1, x0, x4, x18 => if x18 = true then (some (([] : List Int), 2)) else (if 0 ≤ x4 then (if (x4 : Int).toNat ≤ 35184372088832 then ((some (List.replicate (x4 : Int).toNat 0 : List Int)).bind fun y103 => (feature_Inverse.l0 k x0 x4 y103 (y103.length : Int) 0)) else (none)) else (none))
def feature_Inverse.l0 : Nat → List Int → Int → List Int → Int → Int → Option (List Int × Int)
 | 0, _, _, _, _, _ => none
 | k + 1, x0, x4, x5, x22, x23 => if x23 < x22 then (if 0 < (x0.length : Int) then (feature_Inverse.l1 k x0 x4 x5 x23 (wrap64 (16384 * (rd x0 0))) 1 x22 x23) else (none)) else (some (x5, 0))
def feature_Inverse.l1 : Nat → List Int → Int → List Int → Int → Int → Int → Int → Int → Option (List Int × Int)
 | 0, _, _, _, _, _, _, _, _ => none
 | k + 1, x0, x4, x5, x6, x7, x8, x22, x23 => if x8 < x4 then (if 0 ≤ x8 then (if x8 < (x0.length : Int) then (if x4 = 0 then (none) else ((feature_cosine.f (wrap64 (Int.tdiv (wrap64 ((wrap64 ((wrap64 ((wrap64 (2 * x6)) + 1)) * x8)) * 64)) x4))).bind fun t108 => (feature_Inverse.l1 k x0 x4 x5 x6 (wrap64 (x7 + (wrap64 ((wrap64 (2 * (rd x0 x8))) * t108)))) (wrap64 (x8 + 1)) x22 x23))) else (none)) else (none)) else ((feature_far.f k x7 (wrap64 (x4 * 268435456))).bind fun t109 => (if 0 ≤ x6 then (if x6 < (x5.length : Int) then (feature_Inverse.l0 k x0 x4 (x5.set (x6 : Int).toNat t109) x22 (wrap64 (x23 + 1))) else (none)) else (none)))
end
def feature_Inverse.f (k : Nat) (l0 : List Int) : Option (List Int × Int) := (feature_possible.f (l0.length : Int)).bind fun t101 => (if t101 = true then ((feature_within.f l0 1099511627776).bind fun t102 => (feature_Inverse.j0 k l0 (l0.length : Int) (!t102))) else (feature_Inverse.j0 k l0 (l0.length : Int) true))
theorem feature_Inverse.mono_l : ∀ k, (∀ y0 y1 y2, LeO (feature_Inverse.j0 k y0 y1 y2) (feature_Inverse.j0 (k + 1) y0 y1 y2)) ∧ (∀ y0 y1 y2 y3 y4, LeO (feature_Inverse.l0 k y0 y1 y2 y3 y4) (feature_Inverse.l0 (k + 1) y0 y1 y2 y3 y4)) ∧ (∀ y0 y1 y2 y3 y4 y5 y6 y7, LeO (feature_Inverse.l1 k y0 y1 y2 y3 y4 y5 y6 y7) (feature_Inverse.l1 (k + 1) y0 y1 y2 y3 y4 y5 y6 y7))
 | 0 => ⟨fun _ _ _ r h => by simp [feature_Inverse.j0] at h, fun _ _ _ _ _ r h => by simp [feature_Inverse.l0] at h, fun _ _ _ _ _ _ _ _ r h => by simp [feature_Inverse.l1] at h⟩
 | k + 1 => by
  obtain ⟨ih0, ih1, ih2⟩ := feature_Inverse.mono_l k
  refine ⟨?_, ?_, ?_⟩
  ·intro y0 y1 y2
   unfold feature_Inverse.j0
   repeat' first
   | (with_reducible exact ih0 _ _ _)
   | (with_reducible exact ih1 _ _ _ _ _)
   | (with_reducible exact ih2 _ _ _ _ _ _ _ _)
   | (with_reducible exact feature_far.mono _ _ _)
   | (with_reducible exact LeO.refl _)
   | (with_reducible exact LeO.none _)
   | (with_reducible refine LeO.ite ?_ ?_)
   | (with_reducible refine LeO.bind ?_ (fun _ => ?_))
   | exact ih0 _ _ _
   | exact ih1 _ _ _ _ _
   | exact ih2 _ _ _ _ _ _ _ _
   | exact feature_far.mono _ _ _
   | exact LeO.none _
   | refine LeO.ite ?_ ?_
   | refine LeO.bind ?_ (fun _ => ?_)
  ·intro y0 y1 y2 y3 y4
   unfold feature_Inverse.l0
   repeat' first
   | (with_reducible exact ih0 _ _ _)
   | (with_reducible exact ih1 _ _ _ _ _)
   | (with_reducible exact ih2 _ _ _ _ _ _ _ _)
   | (with_reducible exact feature_far.mono _ _ _)
   | (with_reducible exact LeO.refl _)
   | (with_reducible exact LeO.none _)
   | (with_reducible refine LeO.ite ?_ ?_)
   | (with_reducible refine LeO.bind ?_ (fun _ => ?_))
   | exact ih0 _ _ _
   | exact ih1 _ _ _ _ _
   | exact ih2 _ _ _ _ _ _ _ _
   | exact feature_far.mono _ _ _
   | exact LeO.none _
   | refine LeO.ite ?_ ?_
   | refine LeO.bind ?_ (fun _ => ?_)
  ·intro y0 y1 y2 y3 y4 y5 y6 y7
   unfold feature_Inverse.l1
   repeat' first
   | (with_reducible exact ih0 _ _ _)
   | (with_reducible exact ih1 _ _ _ _ _)
   | (with_reducible exact ih2 _ _ _ _ _ _ _ _)
   | (with_reducible exact feature_far.mono _ _ _)
   | (with_reducible exact LeO.refl _)
   | (with_reducible exact LeO.none _)
   | (with_reducible refine LeO.ite ?_ ?_)
   | (with_reducible refine LeO.bind ?_ (fun _ => ?_))
   | exact ih0 _ _ _
   | exact ih1 _ _ _ _ _
   | exact ih2 _ _ _ _ _ _ _ _
   | exact feature_far.mono _ _ _
   | exact LeO.none _
   | refine LeO.ite ?_ ?_
   | refine LeO.bind ?_ (fun _ => ?_)
theorem feature_Inverse.mono : ∀ a0 k, LeO (feature_Inverse.f k a0) (feature_Inverse.f (k + 1) a0) := by
 intro a0 k
 obtain ⟨ih0, ih1, ih2⟩ := feature_Inverse.mono_l k
 unfold feature_Inverse.f
 repeat' first
   | (with_reducible exact ih0 _ _ _)
   | (with_reducible exact ih1 _ _ _ _ _)
   | (with_reducible exact ih2 _ _ _ _ _ _ _ _)
   | (with_reducible exact feature_far.mono _ _ _)
   | (with_reducible exact LeO.refl _)
   | (with_reducible exact LeO.none _)
   | (with_reducible refine LeO.ite ?_ ?_)
   | (with_reducible refine LeO.bind ?_ (fun _ => ?_))
   | exact ih0 _ _ _
   | exact ih1 _ _ _ _ _
   | exact ih2 _ _ _ _ _ _ _ _
   | exact feature_far.mono _ _ _
   | exact LeO.none _
   | refine LeO.ite ?_ ?_
   | refine LeO.bind ?_ (fun _ => ?_)
set_option maxHeartbeats 8000000 in
set_option maxRecDepth 100000 in
theorem feature_Inverse.calls (k : Nat) (A0 : Option Addr) (c0 : Nat) (l0 : List Int) (r1 : List Int) (r2 : Int) (w : World) (ht : Kd.C (Kd.int .i64) w (some ⟨0, 0, none⟩) 65 tabL) (hr0 : Kd.C (Kd.int .i64) w A0 l0.length l0) (hc0 : l0.length ≤ c0) (h : feature_Inverse.f k l0 = some (r1, r2)) :
  Calls Tryd.prog 23 #[.slice A0 l0.length c0] w fun e w' => ∃ v0_ : Value, e = .returned (.tuple #[v0_, .int .i64 r2]) ∧ Kd.R (Kd.int .i64) 3 w' w.heap.size (fun _ => True) v0_ r1 ∧ Below w.heap.size w w' := by
 have HRT := Aside0.mk ht
 clear ht
 have HR0 := Aside0.mk hr0
 have HC0 := Aside0.mk hc0
 clear hr0 hc0
 have HB := Aside0.mk (Below.refl w.heap.size w)
 have H : ((feature_possible.f (l0.length : Int)).bind fun t101 => (if t101 = true then ((feature_within.f l0 1099511627776).bind fun t102 => (feature_Inverse.j0 k l0 (l0.length : Int) (!t102))) else (feature_Inverse.j0 k l0 (l0.length : Int) true))) = some (r1, r2) := h
 clear h
 have HC2 := Aside0.mk H
 clear H
 go_enter Tryd.func23, Tryd.ntmps23
 go_upto_region 2 with (fail)
 repeat (go_quiet (fail); go_upto_region 2 with (fail))
 go_cut [18] (fun v18 wc => ∃ (kq : Nat) (x18_1 : Bool), v18 = .bool x18_1 ∧ Aside0 (feature_Inverse.j0 kq l0 (l0.length : Int) x18_1 = some (r1, r2)) ∧ Aside0 (kq ≤ k) ∧ Aside0 (Below w.heap.size w wc))
 case first =>
  have H := HC2.out
  clear HC2
  replace H := Option.bind_eq_some_iff.mp H
  obtain ⟨t101, A30, H⟩ := H
  try dsimp only at H
  have A3 := Aside0.mk A30
  clear A30
  by_cases c4 : t101 = true
  ·subst c4
   have H1 : ((feature_within.f l0 1099511627776).bind fun t102 => (feature_Inverse.j0 k l0 (l0.length : Int) (!t102))) = some (r1, r2) := by rw [if_pos rfl] at H; exact H
   clear H
   have H := H1
   clear H1
   replace H := Option.bind_eq_some_iff.mp H
   obtain ⟨t102, A50, H⟩ := H
   try dsimp only at H
   have A5 := Aside0.mk A50
   clear A50
   have H' := Aside0.mk H
   clear H
   go_wp2_with (first | (go_at_call 79; (with_reducible refine (feature_possible.calls (l0.length : Int) true _ A3.out).mono ?_); rintro e w' ⟨rfl, ⟨nd, rfl⟩⟩; (try first | exact ⟨rfl, _, World.drewN_drewN _ _ _⟩ | exact ⟨rfl, _, Eq.trans (World.drewN_drewN _ _ _) (congrArg (World.drewN _) (Nat.add_assoc _ _ _))⟩)) | (go_at_call 80; (with_reducible refine (feature_within.calls _ _ l0 1099511627776 t102 _ ?side1 ?side2 A5.out).mono ?_); (case side1 => exact tC (Kd.C_below HR0.out tB)); (case side2 => exact HC0.out); rintro e w6 ⟨rfl, hb⟩; replace HB := Aside0.mk (below_step tB hb); (try clear hb); (try clear hb2); (try clear hk); (try clear hi)))
   repeat (go_quiet (first | (go_at_call 79; (with_reducible refine (feature_possible.calls (l0.length : Int) true _ A3.out).mono ?_); rintro e w' ⟨rfl, ⟨nd, rfl⟩⟩; (try first | exact ⟨rfl, _, World.drewN_drewN _ _ _⟩ | exact ⟨rfl, _, Eq.trans (World.drewN_drewN _ _ _) (congrArg (World.drewN _) (Nat.add_assoc _ _ _))⟩)) | (go_at_call 80; (with_reducible refine (feature_within.calls _ _ l0 1099511627776 t102 _ ?side1 ?side2 A5.out).mono ?_); (case side1 => exact tC (Kd.C_below HR0.out tB)); (case side2 => exact HC0.out); rintro e w6 ⟨rfl, hb⟩; replace HB := Aside0.mk (below_step tB hb); (try clear hb); (try clear hb2); (try clear hk); (try clear hi))); try go_wp2_with (first | (go_at_call 79; (with_reducible refine (feature_possible.calls (l0.length : Int) true _ A3.out).mono ?_); rintro e w' ⟨rfl, ⟨nd, rfl⟩⟩; (try first | exact ⟨rfl, _, World.drewN_drewN _ _ _⟩ | exact ⟨rfl, _, Eq.trans (World.drewN_drewN _ _ _) (congrArg (World.drewN _) (Nat.add_assoc _ _ _))⟩)) | (go_at_call 80; (with_reducible refine (feature_within.calls _ _ l0 1099511627776 t102 _ ?side1 ?side2 A5.out).mono ?_); (case side1 => exact tC (Kd.C_below HR0.out tB)); (case side2 => exact HC0.out); rintro e w6 ⟨rfl, hb⟩; replace HB := Aside0.mk (below_step tB hb); (try clear hb); (try clear hb2); (try clear hk); (try clear hi))))
   go_meet
   case rel => exact ⟨_, (!t102), (by first | rfl | (simp; done) | (simp only [i64_w]; done) | (simp [*]; done)), H', ⟨by first | omega | exact Nat.le_refl _⟩, ⟨tB⟩⟩
  ·replace c4 := Bool.eq_false_iff.mpr c4
   subst c4
   have H1 : (feature_Inverse.j0 k l0 (l0.length : Int) true) = some (r1, r2) := by rw [if_neg (show ¬ (false = true) by decide)] at H; exact H
   clear H
   have H := H1
   clear H1
   have H' := Aside0.mk H
   clear H
   go_wp2_with (first | (go_at_call 79; (with_reducible refine (feature_possible.calls (l0.length : Int) false _ A3.out).mono ?_); rintro e w' ⟨rfl, ⟨nd, rfl⟩⟩; (try first | exact ⟨rfl, _, World.drewN_drewN _ _ _⟩ | exact ⟨rfl, _, Eq.trans (World.drewN_drewN _ _ _) (congrArg (World.drewN _) (Nat.add_assoc _ _ _))⟩)))
   repeat (go_quiet (first | (go_at_call 79; (with_reducible refine (feature_possible.calls (l0.length : Int) false _ A3.out).mono ?_); rintro e w' ⟨rfl, ⟨nd, rfl⟩⟩; (try first | exact ⟨rfl, _, World.drewN_drewN _ _ _⟩ | exact ⟨rfl, _, Eq.trans (World.drewN_drewN _ _ _) (congrArg (World.drewN _) (Nat.add_assoc _ _ _))⟩))); try go_wp2_with (first | (go_at_call 79; (with_reducible refine (feature_possible.calls (l0.length : Int) false _ A3.out).mono ?_); rintro e w' ⟨rfl, ⟨nd, rfl⟩⟩; (try first | exact ⟨rfl, _, World.drewN_drewN _ _ _⟩ | exact ⟨rfl, _, Eq.trans (World.drewN_drewN _ _ _) (congrArg (World.drewN _) (Nat.add_assoc _ _ _))⟩))))
   go_meet
   case rel => exact ⟨_, (true), (by first | rfl | (simp; done) | (simp only [i64_w]; done) | (simp [*]; done)), H', ⟨by first | omega | exact Nat.le_refl _⟩, ⟨tB⟩⟩
 case rest =>
  clear HC2
  try clear c2
  try clear p2
  try clear c4
  obtain ⟨kq, x18_1, rfl, HA, HJ1, HB⟩ := hcut
  cases kq with
  | zero => exact absurd HA.out (by simp [feature_Inverse.j0])
  | succ kj1 =>
   have H := HA.out
   clear HA
   simp only [feature_Inverse.j0] at H
   by_cases c7 : x18_1 = true
   ·subst c7
    have H1 : (some (([] : List Int), 2)) = some (r1, r2) := by rw [if_pos rfl] at H; exact H
    clear H
    have H := H1
    clear H1
    simp only [Option.some.injEq, Prod.mk.injEq] at H
    obtain ⟨rfl, rfl⟩ := H
    go_wp2
    repeat (go_quiet (fail); try go_wp2)
    go_ret2
    exact ⟨_, by first | rfl | (simp [errW_none, errW_some] <;> rfl) | (simp [*, errW_none, errW_some] <;> rfl), by first | exact Kd.R_nil _ _ _ _ _ | exact Kd.N_nil _ _ _ _ _ | exact Kd.V_nil _ _ _ _ _ | exact Kd.Q_nil _ _ _ _ _ | exact Kd.S_nil _ _ _ _ _, tB⟩
   ·replace c7 := Bool.eq_false_iff.mpr c7
    subst c7
    have H1 : (if 0 ≤ (l0.length : Int) then (if ((l0.length : Int) : Int).toNat ≤ 35184372088832 then ((some (List.replicate ((l0.length : Int) : Int).toNat 0 : List Int)).bind fun y103 => (feature_Inverse.l0 kj1 l0 (l0.length : Int) y103 (y103.length : Int) 0)) else (none)) else (none)) = some (r1, r2) := by rw [if_neg (show ¬ (false = true) by decide)] at H; exact H
    clear H
    have H := H1
    clear H1
    by_cases c8 : 0 ≤ (l0.length : Int)
    ·rw [if_pos c8] at H
     have c8b0 := eq_true c8
     have c8b1 := decide_eq_true c8
     clear c8
     by_cases c9 : ((l0.length : Int) : Int).toNat ≤ 35184372088832
     ·rw [if_pos c9] at H
      have c9b0 := eq_true c9
      have c9b1 := decide_eq_true c9
      clear c9
      obtain ⟨y103, hy103⟩ : ∃ y_ : List Int, y_ = (List.replicate ((l0.length : Int) : Int).toNat 0) := ⟨_, rfl⟩
      replace H : (feature_Inverse.l0 kj1 l0 (l0.length : Int) y103 (y103.length : Int) 0) = some (r1, r2) := by first | (rw [hy103]; with_reducible exact H) | (have H2_ := (Option.bind_some _ _).symm.trans H; rw [hy103]; with_reducible exact H2_) | (have H2_ := (Option.bind_some _ _).symm.trans H; with_reducible exact H2_) | with_reducible exact H | (rw [hy103]; exact H) | exact H
      have Ny103 := Aside0.mk hy103
      clear hy103
      have H' := Aside0.mk H
      clear H
      go_wp2_with (first | ((with_reducible refine gate_dst (N := 20) rfl ?_); refine Kd.R_make (Kd.int .i64) _ 3 rfl (N := 20) rfl 22 _ _ rfl (l0.length : Int) rfl rfl Tryd.underlying22 (.int .i64 0) 8 info3 rfl (by decide) (by omega) 0 (ok := fun _ => True) (okp := fun _ => True) rfl (fun _ hk => hk) trivial (of_decide_eq_true tA) (Nat.le_trans (Nat.mul_le_mul_right _ (of_decide_eq_true tA : (l0.length : Int).toNat ≤ 35184372088832)) (by omega)) (Below.refl _ _) (Nat.le_refl _) ?_; intro v104 w10 ho11 hb hg_ hnew_; clear hg_ hnew_; (first | rw [← Ny103.out] at ho11 | (simp only [Int.reduceToNat] at ho11; rw [← Ny103.out] at ho11)); have HO105 := Aside0.mk (Kd.R_lower ho11 (below_size tB)); replace HB := Aside0.mk (below_step tB hb); clear hb ho11; obtain ⟨Ao12, co12, eo12⟩ := Kd.R_slice HO105.out; subst eo12))
      repeat (go_quiet (first | ((with_reducible refine gate_dst (N := 20) rfl ?_); refine Kd.R_make (Kd.int .i64) _ 3 rfl (N := 20) rfl 22 _ _ rfl (l0.length : Int) rfl rfl Tryd.underlying22 (.int .i64 0) 8 info3 rfl (by decide) (by omega) 0 (ok := fun _ => True) (okp := fun _ => True) rfl (fun _ hk => hk) trivial (of_decide_eq_true tA) (Nat.le_trans (Nat.mul_le_mul_right _ (of_decide_eq_true tA : (l0.length : Int).toNat ≤ 35184372088832)) (by omega)) (Below.refl _ _) (Nat.le_refl _) ?_; intro v104 w10 ho11 hb hg_ hnew_; clear hg_ hnew_; (first | rw [← Ny103.out] at ho11 | (simp only [Int.reduceToNat] at ho11; rw [← Ny103.out] at ho11)); have HO105 := Aside0.mk (Kd.R_lower ho11 (below_size tB)); replace HB := Aside0.mk (below_step tB hb); clear hb ho11; obtain ⟨Ao12, co12, eo12⟩ := Kd.R_slice HO105.out; subst eo12)); try go_wp2_with (first | ((with_reducible refine gate_dst (N := 20) rfl ?_); refine Kd.R_make (Kd.int .i64) _ 3 rfl (N := 20) rfl 22 _ _ rfl (l0.length : Int) rfl rfl Tryd.underlying22 (.int .i64 0) 8 info3 rfl (by decide) (by omega) 0 (ok := fun _ => True) (okp := fun _ => True) rfl (fun _ hk => hk) trivial (of_decide_eq_true tA) (Nat.le_trans (Nat.mul_le_mul_right _ (of_decide_eq_true tA : (l0.length : Int).toNat ≤ 35184372088832)) (by omega)) (Below.refl _ _) (Nat.le_refl _) ?_; intro v104 w10 ho11 hb hg_ hnew_; clear hg_ hnew_; (first | rw [← Ny103.out] at ho11 | (simp only [Int.reduceToNat] at ho11; rw [← Ny103.out] at ho11)); have HO105 := Aside0.mk (Kd.R_lower ho11 (below_size tB)); replace HB := Aside0.mk (below_step tB hb); clear hb ho11; obtain ⟨Ao12, co12, eo12⟩ := Kd.R_slice HO105.out; subst eo12)))
      go_loopg [23] kj1 (fun kq v23 w' => ∃ (x5_2 : List Int) (x23_2 : Int), v23 = .int .i64 x23_2 ∧ Aside0 (feature_Inverse.l0 kq l0 (l0.length : Int) x5_2 (y103.length : Int) x23_2 = some (r1, r2)) ∧ Aside0 (kq ≤ kj1) ∧ Aside0 (Kd.R (Kd.int .i64) 3 w' w.heap.size (fun _ => True) (.slice Ao12 y103.length co12) x5_2) ∧ Aside0 (Below w.heap.size w w'))
      case atStart => exact ⟨(y103), (0), (by first | rfl | (simp; done) | (simp only [i64_w]; done) | (simp [*]; done)), H', ⟨Nat.le_refl _⟩, ⟨tR HO105.out⟩, ⟨tB⟩⟩
      case round =>
       clear H'
       try clear c2
       try clear p2
       try clear c4
       try clear c7
       try clear c8
       try clear c8b0
       try clear c8b1
       try clear c9
       try clear c9b0
       try clear c9b1
       try clear p2
       obtain ⟨x5_2, x23_2, rfl, HA, HK2, HO_5, HB⟩ := hrel
       have hl5_2 := (Kd.R_reads' HO_5.out).1
       rw [hl5_2] at HO_5
       (try simp only [hl5_2])
       cases gk with
       | zero => exact absurd HA.out (by simp [feature_Inverse.l0])
       | succ k2 =>
        have H := HA.out
        clear HA
        simp only [feature_Inverse.l0] at H
        by_cases c13 : x23_2 < (y103.length : Int)
        ·rw [if_pos c13] at H
         have c13b0 := decide_eq_true c13
         (try simp only [hl5_2] at c13b0)
         clear c13
         by_cases c14 : 0 < (l0.length : Int)
         ·rw [if_pos c14] at H
          have c14b0 := decide_eq_true c14
          (try simp only [hl5_2] at c14b0)
          have c14b1 : decide (0 < l0.length) = true := decide_eq_true (by omega)
          (try simp only [hl5_2] at c14b1)
          clear c14
          have H' := Aside0.mk H
          clear H
          have p106 : 0 ≤ (0 : Int) := (by omega)
          have q106 : 0 < (l0.length : Int) := of_decide_eq_true tA
          obtain ⟨ad106, e106, hx106_0⟩ := Kd.at_int HR0.out 0 p106 q106
          cases e106
          have qi106 : (0 < l0.length) = True := eq_true (by omega)
          (try rw [show ((0 : Int)).toNat = 0 from rfl] at hx106_0)
          (try rw [Addr.add_zero'] at hx106_0)
          replace hx106_0 := (HB.out.cell (World.block_lt_of_cell? w _ hx106_0)).trans hx106_0
          replace p106 := eq_true p106
          replace q106 := eq_true q106
          go_wp2
          repeat (go_quiet (fail); try go_wp2)
          go_loopg [7, 8] k2 (fun kq v7 v8 w' => ∃ (x7_3 : Int) (x8_3 : Int), v7 = .int .i64 x7_3 ∧ v8 = .int .i64 x8_3 ∧ Aside0 (feature_Inverse.l1 kq l0 (l0.length : Int) x5_2 x23_2 x7_3 x8_3 (y103.length : Int) x23_2 = some (r1, r2)) ∧ Aside0 (kq ≤ k2) ∧ Aside0 (Kd.R (Kd.int .i64) 3 w' w.heap.size (fun _ => True) (.slice Ao12 x5_2.length co12) x5_2) ∧ Aside0 (Below w.heap.size w w'))
          case atStart => exact ⟨(wrap64 (16384 * (rd l0 0))), (1), (by first | rfl | (simp; done) | (simp only [i64_w]; done) | (simp [*]; done)), (by first | rfl | (simp; done) | (simp only [i64_w]; done) | (simp [*]; done)), H', ⟨Nat.le_refl _⟩, ⟨by (try simp only [hl5_2]); exact tR HO_5.out⟩, ⟨tB⟩⟩
          case round =>
           clear H'
           try clear c1
           try clear p1
           try clear q1
           try clear hx1
           try clear qi1
           try clear c2
           try clear p2
           try clear c4
           try clear p6
           try clear c7
           try clear c8
           try clear c8b0
           try clear c8b1
           try clear c9
           try clear c9b0
           try clear c9b1
           try clear p10
           try clear q10
           try clear hx10
           try clear qi10
           try clear c13
           try clear c13b0
           try clear c14
           try clear c14b0
           try clear c14b1
           try clear hx106_0
           try clear p106
           try clear p2
           try clear q106
           obtain ⟨x7_3, x8_3, rfl, rfl, HA, HK3, HO_5, HB⟩ := hrel
           cases gk with
           | zero => exact absurd HA.out (by simp [feature_Inverse.l1])
           | succ k3 =>
            have H := HA.out
            clear HA
            simp only [feature_Inverse.l1] at H
            by_cases c15 : x8_3 < (l0.length : Int)
            ·rw [if_pos c15] at H
             have c15b0 := decide_eq_true c15
             (try simp only [hl5_2] at c15b0)
             clear c15
             by_cases c16 : 0 ≤ x8_3
             ·rw [if_pos c16] at H
              have c16b0 := decide_eq_true c16
              clear c16
              by_cases c17 : x8_3 < (l0.length : Int)
              ·rw [if_pos c17] at H
               have c17b0 := decide_eq_true c17
               (try simp only [hl5_2] at c17b0)
               clear c17
               by_cases c18 : (l0.length : Int) = 0
               ·rw [if_pos c18] at H
                exact absurd H (by simp)
               ·rw [if_neg c18] at H
                have c18b0 : ((l0.length : Int) == 0) = false := beq_eq_false_iff_ne.mpr c18
                (try simp only [hl5_2] at c18b0)
                have c18b1 : ((l0.length : Int) != 0) = true := bne_iff_ne.mpr c18
                (try simp only [hl5_2] at c18b1)
                have c18b2 : ¬ (l0 = []) := fun h_ => c18 (by rw [h_]; rfl)
                replace H := Option.bind_eq_some_iff.mp H
                obtain ⟨t108, A190, H⟩ := H
                try dsimp only at H
                have A19 := Aside0.mk A190
                clear A190
                have H' := Aside0.mk H
                clear H
                have p107 : 0 ≤ (x8_3 : Int) := of_decide_eq_true tA
                have q107 : x8_3 < (l0.length : Int) := of_decide_eq_true tA
                obtain ⟨ad107, e107, hx107_0⟩ := Kd.at_int HR0.out x8_3 p107 q107
                obtain rfl : ad106 = ad107 := (by injection e107)
                replace hx107_0 := (HB.out.cell (World.block_lt_of_cell? w _ hx107_0)).trans hx107_0
                replace p107 := eq_true p107
                replace q107 := eq_true q107
                go_wp2_with (first | (go_at_call 81; (with_reducible refine (feature_cosine.calls (wrap64 (Int.tdiv (wrap64 ((wrap64 ((wrap64 ((wrap64 (2 * x23_2)) + 1)) * x8_3)) * 64)) (l0.length : Int))) t108 _ ?side1 A19.out).mono ?_); (case side1 => exact tC (Kd.C_below HRT.out HB.out)); rintro e w' ⟨rfl, ⟨nd, rfl⟩⟩; (try first | exact ⟨rfl, _, World.drewN_drewN _ _ _⟩ | exact ⟨rfl, _, Eq.trans (World.drewN_drewN _ _ _) (congrArg (World.drewN _) (Nat.add_assoc _ _ _))⟩)))
                repeat (go_quiet (first | (go_at_call 81; (with_reducible refine (feature_cosine.calls (wrap64 (Int.tdiv (wrap64 ((wrap64 ((wrap64 ((wrap64 (2 * x23_2)) + 1)) * x8_3)) * 64)) (l0.length : Int))) t108 _ ?side1 A19.out).mono ?_); (case side1 => exact tC (Kd.C_below HRT.out HB.out)); rintro e w' ⟨rfl, ⟨nd, rfl⟩⟩; (try first | exact ⟨rfl, _, World.drewN_drewN _ _ _⟩ | exact ⟨rfl, _, Eq.trans (World.drewN_drewN _ _ _) (congrArg (World.drewN _) (Nat.add_assoc _ _ _))⟩))); try go_wp2_with (first | (go_at_call 81; (with_reducible refine (feature_cosine.calls (wrap64 (Int.tdiv (wrap64 ((wrap64 ((wrap64 ((wrap64 (2 * x23_2)) + 1)) * x8_3)) * 64)) (l0.length : Int))) t108 _ ?side1 A19.out).mono ?_); (case side1 => exact tC (Kd.C_below HRT.out HB.out)); rintro e w' ⟨rfl, ⟨nd, rfl⟩⟩; (try first | exact ⟨rfl, _, World.drewN_drewN _ _ _⟩ | exact ⟨rfl, _, Eq.trans (World.drewN_drewN _ _ _) (congrArg (World.drewN _) (Nat.add_assoc _ _ _))⟩))))
                go_roundg k3
                case measure => have := HJ1.out; have := HK2.out; have := HK3.out; omega
                case rel => exact ⟨(wrap64 (x7_3 + (wrap64 ((wrap64 (2 * (rd l0 x8_3))) * t108)))), (wrap64 (x8_3 + 1)), (by first | rfl | (simp; done) | (simp only [i64_w]; done) | (simp [*]; done)), (by first | rfl | (simp; done) | (simp only [i64_w]; done) | (simp [*]; done)), H', ⟨by have := HJ1.out; have := HK2.out; have := HK3.out; omega⟩, ⟨by (try simp only [hl5_2]); exact tR HO_5.out⟩, ⟨tB⟩⟩
              ·rw [if_neg c17] at H
               exact absurd H (by simp)
             ·rw [if_neg c16] at H
              exact absurd H (by simp)
            ·rw [if_neg c15] at H
             have c15b0 := decide_eq_false c15
             (try simp only [hl5_2] at c15b0)
             clear c15
             replace H := Option.bind_eq_some_iff.mp H
             obtain ⟨t109, A200, H⟩ := H
             try dsimp only at H
             have A20 := Aside0.mk A200
             clear A200
             by_cases c21 : 0 ≤ x23_2
             ·rw [if_pos c21] at H
              have c21b0 := decide_eq_true c21
              clear c21
              by_cases c22 : x23_2 < (x5_2.length : Int)
              ·rw [if_pos c22] at H
               have c22b0 := decide_eq_true c22
               (try simp only [hl5_2] at c22b0)
               clear c22
               obtain ⟨y110, hy110⟩ : ∃ y_ : List Int, y_ = (x5_2.set (x23_2 : Int).toNat t109) := ⟨_, rfl⟩
               replace H : (feature_Inverse.l0 k3 l0 (l0.length : Int) y110 (y103.length : Int) (wrap64 (x23_2 + 1))) = some (r1, r2) := by first | (rw [hy110]; with_reducible exact H) | (have H2_ := (Option.bind_some _ _).symm.trans H; rw [hy110]; with_reducible exact H2_) | (have H2_ := (Option.bind_some _ _).symm.trans H; with_reducible exact H2_) | with_reducible exact H | (rw [hy110]; exact H) | exact H
               have Ny110 := Aside0.mk hy110
               clear hy110
               have H' := Aside0.mk H
               clear H
               go_wp2_with (first | (go_at_call 82; (with_reducible refine (feature_far.calls k3 x7_3 (wrap64 ((l0.length : Int) * 268435456)) t109 _ A20.out).mono ?_); rintro e w' ⟨rfl, ⟨nd, rfl⟩⟩; (try first | exact ⟨rfl, _, World.drewN_drewN _ _ _⟩ | exact ⟨rfl, _, Eq.trans (World.drewN_drewN _ _ _) (congrArg (World.drewN _) (Nat.add_assoc _ _ _))⟩); have p23 : 0 ≤ (x23_2 : Int) := of_decide_eq_true tA; have q23 : (x23_2 : Int) < ((x5_2.length : Int) : Int) := of_decide_eq_true tA; obtain ⟨go23, co23, eo23, gb23, gl23, cl23, HG23⟩ := Kd.R_form HO_5.out (by omega); (first | cases eo23 | (injection eo23 with ea_ en_ ec_; (first | subst ea_ | (injection ea_ with ea_; subst ea_)); subst ec_; clear en_)); have GB23 := Aside0.mk gb23; have GG23 := Aside0.mk HG23; clear gb23 gl23 HG23; obtain ⟨hx23_0, hf23_0⟩ := Kd.R_celln 0 HO_5.out (x23_2 : Int) p23 q23; replace p23 := eq_true p23; replace q23 := eq_true q23; obtain ⟨hy24_, hz24_⟩ := Kd.R_celln 0 HO_5.out (x23_2 : Int) (of_decide_eq_true tA) (of_decide_eq_true tA); have HP24 := Kd.R_putg HO_5.out (x23_2 : Int) t109) | ((with_reducible refine gate_store (t := 3) (p := 58) rfl ?_); (try (rw [drewN_self wr]; generalize hq_ : World.drewN wr _ = wr; (try have hx23_0 := cell_at hq_ hx23_0); (try have hf23_0 := frozen_at hq_ hf23_0); have n0_ := Aside0.mk (Kd.R_at hq_ HO_5.out); have n1_ := Aside0.mk (below_at hq_ HB.out); clear hq_ HO_5 HB; have HO_5 := n0_; have HB := n1_; clear n0_ n1_; (try (obtain ⟨hy24_, hz24_⟩ := Kd.R_celln 0 HO_5.out (x23_2 : Int) (of_decide_eq_true tA) (of_decide_eq_true tA))); (try (have HP24 := Kd.R_putg HO_5.out (x23_2 : Int) t109)))); refine store_event (t := 3) (p := 58) (v := ?vo_w25) (w1 := (wr.setCell ⟨go23, (x23_2 : Int).toNat, none⟩ (.int .i64 t109))) ?hg ?ho ?hn ?hr ?_; (case ho => rfl); (case hg => rfl); (case hn => rfl); (case hr => first | (go_simp; done) | (go_simp; rfl)); intro w25 hw; have hg : wr.grownBy w25 (some go23) := (by rw [hw]; exact HP24.2); have hp_ : Kd.R (Kd.int .i64) 3 w25 w.heap.size (fun _ => True) (.slice (some ⟨go23, 0, none⟩) x5_2.length co12) y110 := (by rw [hw, Ny110.out]; exact HP24.1); clear HP24; replace HO_5 := Aside0.mk (hp_); replace HB := Aside0.mk ((by rw [hw]; exact below_set (HB.out) GB23.out : Below w.heap.size w w25)); clear hg hw hp_))
               repeat (go_quiet (first | (go_at_call 82; (with_reducible refine (feature_far.calls k3 x7_3 (wrap64 ((l0.length : Int) * 268435456)) t109 _ A20.out).mono ?_); rintro e w' ⟨rfl, ⟨nd, rfl⟩⟩; (try first | exact ⟨rfl, _, World.drewN_drewN _ _ _⟩ | exact ⟨rfl, _, Eq.trans (World.drewN_drewN _ _ _) (congrArg (World.drewN _) (Nat.add_assoc _ _ _))⟩); have p23 : 0 ≤ (x23_2 : Int) := of_decide_eq_true tA; have q23 : (x23_2 : Int) < ((x5_2.length : Int) : Int) := of_decide_eq_true tA; obtain ⟨go23, co23, eo23, gb23, gl23, cl23, HG23⟩ := Kd.R_form HO_5.out (by omega); (first | cases eo23 | (injection eo23 with ea_ en_ ec_; (first | subst ea_ | (injection ea_ with ea_; subst ea_)); subst ec_; clear en_)); have GB23 := Aside0.mk gb23; have GG23 := Aside0.mk HG23; clear gb23 gl23 HG23; obtain ⟨hx23_0, hf23_0⟩ := Kd.R_celln 0 HO_5.out (x23_2 : Int) p23 q23; replace p23 := eq_true p23; replace q23 := eq_true q23; obtain ⟨hy24_, hz24_⟩ := Kd.R_celln 0 HO_5.out (x23_2 : Int) (of_decide_eq_true tA) (of_decide_eq_true tA); have HP24 := Kd.R_putg HO_5.out (x23_2 : Int) t109) | ((with_reducible refine gate_store (t := 3) (p := 58) rfl ?_); (try (rw [drewN_self wr]; generalize hq_ : World.drewN wr _ = wr; (try have hx23_0 := cell_at hq_ hx23_0); (try have hf23_0 := frozen_at hq_ hf23_0); have n0_ := Aside0.mk (Kd.R_at hq_ HO_5.out); have n1_ := Aside0.mk (below_at hq_ HB.out); clear hq_ HO_5 HB; have HO_5 := n0_; have HB := n1_; clear n0_ n1_; (try (obtain ⟨hy24_, hz24_⟩ := Kd.R_celln 0 HO_5.out (x23_2 : Int) (of_decide_eq_true tA) (of_decide_eq_true tA))); (try (have HP24 := Kd.R_putg HO_5.out (x23_2 : Int) t109)))); refine store_event (t := 3) (p := 58) (v := ?vo_w25) (w1 := (wr.setCell ⟨go23, (x23_2 : Int).toNat, none⟩ (.int .i64 t109))) ?hg ?ho ?hn ?hr ?_; (case ho => rfl); (case hg => rfl); (case hn => rfl); (case hr => first | (go_simp; done) | (go_simp; rfl)); intro w25 hw; have hg : wr.grownBy w25 (some go23) := (by rw [hw]; exact HP24.2); have hp_ : Kd.R (Kd.int .i64) 3 w25 w.heap.size (fun _ => True) (.slice (some ⟨go23, 0, none⟩) x5_2.length co12) y110 := (by rw [hw, Ny110.out]; exact HP24.1); clear HP24; replace HO_5 := Aside0.mk (hp_); replace HB := Aside0.mk ((by rw [hw]; exact below_set (HB.out) GB23.out : Below w.heap.size w w25)); clear hg hw hp_)); try go_wp2_with (first | (go_at_call 82; (with_reducible refine (feature_far.calls k3 x7_3 (wrap64 ((l0.length : Int) * 268435456)) t109 _ A20.out).mono ?_); rintro e w' ⟨rfl, ⟨nd, rfl⟩⟩; (try first | exact ⟨rfl, _, World.drewN_drewN _ _ _⟩ | exact ⟨rfl, _, Eq.trans (World.drewN_drewN _ _ _) (congrArg (World.drewN _) (Nat.add_assoc _ _ _))⟩); have p23 : 0 ≤ (x23_2 : Int) := of_decide_eq_true tA; have q23 : (x23_2 : Int) < ((x5_2.length : Int) : Int) := of_decide_eq_true tA; obtain ⟨go23, co23, eo23, gb23, gl23, cl23, HG23⟩ := Kd.R_form HO_5.out (by omega); (first | cases eo23 | (injection eo23 with ea_ en_ ec_; (first | subst ea_ | (injection ea_ with ea_; subst ea_)); subst ec_; clear en_)); have GB23 := Aside0.mk gb23; have GG23 := Aside0.mk HG23; clear gb23 gl23 HG23; obtain ⟨hx23_0, hf23_0⟩ := Kd.R_celln 0 HO_5.out (x23_2 : Int) p23 q23; replace p23 := eq_true p23; replace q23 := eq_true q23; obtain ⟨hy24_, hz24_⟩ := Kd.R_celln 0 HO_5.out (x23_2 : Int) (of_decide_eq_true tA) (of_decide_eq_true tA); have HP24 := Kd.R_putg HO_5.out (x23_2 : Int) t109) | ((with_reducible refine gate_store (t := 3) (p := 58) rfl ?_); (try (rw [drewN_self wr]; generalize hq_ : World.drewN wr _ = wr; (try have hx23_0 := cell_at hq_ hx23_0); (try have hf23_0 := frozen_at hq_ hf23_0); have n0_ := Aside0.mk (Kd.R_at hq_ HO_5.out); have n1_ := Aside0.mk (below_at hq_ HB.out); clear hq_ HO_5 HB; have HO_5 := n0_; have HB := n1_; clear n0_ n1_; (try (obtain ⟨hy24_, hz24_⟩ := Kd.R_celln 0 HO_5.out (x23_2 : Int) (of_decide_eq_true tA) (of_decide_eq_true tA))); (try (have HP24 := Kd.R_putg HO_5.out (x23_2 : Int) t109)))); refine store_event (t := 3) (p := 58) (v := ?vo_w25) (w1 := (wr.setCell ⟨go23, (x23_2 : Int).toNat, none⟩ (.int .i64 t109))) ?hg ?ho ?hn ?hr ?_; (case ho => rfl); (case hg => rfl); (case hn => rfl); (case hr => first | (go_simp; done) | (go_simp; rfl)); intro w25 hw; have hg : wr.grownBy w25 (some go23) := (by rw [hw]; exact HP24.2); have hp_ : Kd.R (Kd.int .i64) 3 w25 w.heap.size (fun _ => True) (.slice (some ⟨go23, 0, none⟩) x5_2.length co12) y110 := (by rw [hw, Ny110.out]; exact HP24.1); clear HP24; replace HO_5 := Aside0.mk (hp_); replace HB := Aside0.mk ((by rw [hw]; exact below_set (HB.out) GB23.out : Below w.heap.size w w25)); clear hg hw hp_)))
               (try simp only [← hl5_2])
               go_roundg k3
               case measure => have := HJ1.out; have := HK2.out; have := HK3.out; omega
               case rel => exact ⟨(y110), (wrap64 (x23_2 + 1)), (by first | rfl | (simp; done) | (simp only [i64_w]; done) | (simp [*]; done)), H', ⟨by have := HJ1.out; have := HK2.out; have := HK3.out; omega⟩, ⟨by (try simp only [hl5_2]); exact tR HO_5.out⟩, ⟨tB⟩⟩
              ·rw [if_neg c22] at H
               exact absurd H (by simp)
             ·rw [if_neg c21] at H
              exact absurd H (by simp)
         ·rw [if_neg c14] at H
          exact absurd H (by simp)
        ·rw [if_neg c13] at H
         have c13b0 := decide_eq_false c13
         (try simp only [hl5_2] at c13b0)
         clear c13
         simp only [Option.some.injEq, Prod.mk.injEq] at H
         obtain ⟨rfl, rfl⟩ := H
         go_wp2
         repeat (go_quiet (fail); try go_wp2)
         go_ret2
         exact ⟨_, by first | rfl | (simp [errW_none, errW_some] <;> rfl) | (simp [*, errW_none, errW_some] <;> rfl), tR HO_5.out, tB⟩
     ·rw [if_neg c9] at H
      exact absurd H (by simp)
    ·rw [if_neg c8] at H
     exact absurd H (by simp)

end Go.Proofs.YtdlbmbijobcljaaDoor.X

-- By a program of this session's own (wip/print), after the kit's print.
namespace Go.Proofs.YtdlbmbijobcljaaDoor.X
open Go.RowKit Go.Proofs.YtdlbmbijobcljaaDoorW.PrintWords Go.Proofs.YtdlbmbijobcljaaDoorW.PrintLast Go.Proofs.YtdlbmbijobcljaaDoorW.PrintMore
attribute [local go_sem] max2_int min2_int max_two min_two max_three min_three max_four min_four   -- for this text's walks alone
set_option linter.unusedVariables false
set_option linter.unusedSimpArgs false

/-! ### feature_rounded: function 147 -/
def feature_rounded.f : Nat → Int → Int → Option (Int)
 | 0, _, _ => none
 | k + 1, a0, a1 => if a0 < 0 then ((feature_rounded.f k (wrap64 (-a0)) a1).bind fun t101 => (some (wrap64 (-t101)))) else (if (wrap64 (2 * a1)) = 0 then (none) else (some (wrap64 (Int.tdiv (wrap64 ((wrap64 (2 * a0)) + a1)) (wrap64 (2 * a1))))))
theorem feature_rounded.mono_l : ∀ k, (∀ y0 y1, LeO (feature_rounded.f k y0 y1) (feature_rounded.f (k + 1) y0 y1))
 | 0 => fun _ _ r h => by simp [feature_rounded.f] at h
 | k + 1 => by
  have ih0 := feature_rounded.mono_l k
  ·intro y0 y1
   unfold feature_rounded.f
   repeat' first
   | (with_reducible exact ih0 _ _)
   | (with_reducible exact LeO.refl _)
   | (with_reducible exact LeO.none _)
   | (with_reducible refine LeO.ite ?_ ?_)
   | (with_reducible refine LeO.bind ?_ (fun _ => ?_))
   | exact ih0 _ _
   | exact LeO.none _
   | refine LeO.ite ?_ ?_
   | refine LeO.bind ?_ (fun _ => ?_)
theorem feature_rounded.mono : ∀ a0 a1 k, LeO (feature_rounded.f k a0 a1) (feature_rounded.f (k + 1) a0 a1) := by
 intro a0 a1 k
 have ih0 := feature_rounded.mono_l k
 exact ih0 a0 a1
set_option maxHeartbeats 8000000 in
set_option maxRecDepth 100000 in
theorem feature_rounded.calls (k : Nat) : ∀ (a0 : Int) (a1 : Int) (r : Int) (w : World) (h : feature_rounded.f k a0 a1 = some r),
  Calls Tryd.prog 147 #[.int .i64 a0, .int .i64 a1] w fun e w' => e = .returned (.int .i64 r) ∧ Drawn0 w w' := by
 induction k using Nat.strongRecOn with
 | _ k ih =>
 intro a0 a1 r w h
 cases k with
 | zero => exact absurd h (by simp [feature_rounded.f])
 | succ k =>
 simp only [feature_rounded.f] at h
 have H : (if a0 < 0 then ((feature_rounded.f k (wrap64 (-a0)) a1).bind fun t101 => (some (wrap64 (-t101)))) else (if (wrap64 (2 * a1)) = 0 then (none) else (some (wrap64 (Int.tdiv (wrap64 ((wrap64 (2 * a0)) + a1)) (wrap64 (2 * a1))))))) = some r := h
 clear h
 by_cases c3 : a0 < 0
 ·rw [if_pos c3] at H
  have c3b0 := decide_eq_true c3
  clear c3
  replace H := Option.bind_eq_some_iff.mp H
  obtain ⟨t101, A40, H⟩ := H
  try dsimp only at H
  have A4 := Aside0.mk A40
  clear A40
  obtain rfl := Option.some.inj H
  go_enter Tryd.func147, Tryd.ntmps147
  go_wp2_with (first | ((with_reducible refine gate_callee (f := 147) rfl ?_); refine goesL_ (some 10) rfl rfl Tryd.func147 (by kernel_rfl) rfl #[.int .i64 (wrap64 (-a0)), .int .i64 a1] rfl tL ?_; (with_reducible refine (ih k (by omega) (wrap64 (-a0)) a1 t101 _ A4.out).mono ?_); rintro e w' ⟨rfl, ⟨nd, rfl⟩⟩; refine ⟨_, rfl, ?_⟩))
  go_ret
  exact ⟨by first | rfl | (simp; done) | (simp [*]; done), by repeat (first | exact Drawn0.refl _ | apply Drawn0.step)⟩
 ·rw [if_neg c3] at H
  have c3b0 := decide_eq_false c3
  clear c3
  by_cases c5 : (wrap64 (2 * a1)) = 0
  ·rw [if_pos c5] at H
   exact absurd H (by simp)
  ·rw [if_neg c5] at H
   have c5b0 : ((wrap64 (2 * a1)) == 0) = false := beq_eq_false_iff_ne.mpr c5
   have c5b1 : ((wrap64 (2 * a1)) != 0) = true := bne_iff_ne.mpr c5
   obtain rfl := Option.some.inj H
   go_enter Tryd.func147, Tryd.ntmps147
   go_wp2
   go_ret
   exact ⟨by first | rfl | (simp; done) | (simp [*]; done), by repeat (first | exact Drawn0.refl _ | apply Drawn0.step)⟩

end Go.Proofs.YtdlbmbijobcljaaDoor.X

-- By a program of this session's own (wip/print), after the kit's print.
namespace Go.Proofs.YtdlbmbijobcljaaDoor.X
open Go.RowKit Go.Proofs.YtdlbmbijobcljaaDoorW.PrintWords Go.Proofs.YtdlbmbijobcljaaDoorW.PrintLast Go.Proofs.YtdlbmbijobcljaaDoorW.PrintMore
attribute [local go_sem] max2_int min2_int max_two min_two max_three min_three max_four min_four   -- for this text's walks alone
set_option linter.unusedVariables false
set_option linter.unusedSimpArgs false

/-! ### feature_spectrum: function 112 -/
def feature_spectrum.l0 : Nat → List Int → Int → Int → Option (List Int)
 | 0, _, _, _ => none
 | k + 1, x3, x8, x9 => if x9 < x8 then (if 0 ≤ x9 then (if x9 < (x3.length : Int) then ((feature_rounded.f k (rd x3 x9) 16384).bind fun t105 => (feature_spectrum.l0 k (x3.set (x9 : Int).toNat t105) x8 (wrap64 (x9 + 1)))) else (none)) else (none)) else (some x3)
def feature_spectrum.f (k : Nat) (l0 : List Int) : Option (List Int) := (feature_transform.f k l0).bind fun t101 => (feature_spectrum.l0 k t101 (t101.length : Int) 0)
theorem feature_spectrum.mono_l : ∀ k, (∀ y0 y1 y2, LeO (feature_spectrum.l0 k y0 y1 y2) (feature_spectrum.l0 (k + 1) y0 y1 y2))
 | 0 => fun _ _ _ r h => by simp [feature_spectrum.l0] at h
 | k + 1 => by
  have ih0 := feature_spectrum.mono_l k
  ·intro y0 y1 y2
   unfold feature_spectrum.l0
   repeat' first
   | (with_reducible exact ih0 _ _ _)
   | (with_reducible exact feature_rounded.mono _ _ _)
   | (with_reducible exact feature_transform.mono _ _)
   | (with_reducible exact LeO.refl _)
   | (with_reducible exact LeO.none _)
   | (with_reducible refine LeO.ite ?_ ?_)
   | (with_reducible refine LeO.bind ?_ (fun _ => ?_))
   | exact ih0 _ _ _
   | exact feature_rounded.mono _ _ _
   | exact feature_transform.mono _ _
   | exact LeO.none _
   | refine LeO.ite ?_ ?_
   | refine LeO.bind ?_ (fun _ => ?_)
theorem feature_spectrum.mono : ∀ a0 k, LeO (feature_spectrum.f k a0) (feature_spectrum.f (k + 1) a0) := by
 intro a0 k
 have ih0 := feature_spectrum.mono_l k
 unfold feature_spectrum.f
 repeat' first
   | (with_reducible exact ih0 _ _ _)
   | (with_reducible exact feature_rounded.mono _ _ _)
   | (with_reducible exact feature_transform.mono _ _)
   | (with_reducible exact LeO.refl _)
   | (with_reducible exact LeO.none _)
   | (with_reducible refine LeO.ite ?_ ?_)
   | (with_reducible refine LeO.bind ?_ (fun _ => ?_))
   | exact ih0 _ _ _
   | exact feature_rounded.mono _ _ _
   | exact feature_transform.mono _ _
   | exact LeO.none _
   | refine LeO.ite ?_ ?_
   | refine LeO.bind ?_ (fun _ => ?_)
set_option maxHeartbeats 8000000 in
set_option maxRecDepth 100000 in
theorem feature_spectrum.calls (k : Nat) (A0 : Option Addr) (c0 : Nat) (l0 : List Int) (r : List Int) (w : World) (ht : Kd.C (Kd.int .i64) w (some ⟨0, 0, none⟩) 65 tabL) (hr0 : Kd.C (Kd.int .i64) w A0 l0.length l0) (hc0 : l0.length ≤ c0) (h : feature_spectrum.f k l0 = some r) :
  Calls Tryd.prog 112 #[.slice A0 l0.length c0] w fun e w' => ∃ v0_ : Value, e = .returned (v0_) ∧ Kd.R (Kd.int .i64) 3 w' w.heap.size (fun _ => True) v0_ r ∧ Below w.heap.size w w' := by
 have HRT := Aside0.mk ht
 clear ht
 have HR0 := Aside0.mk hr0
 have HC0 := Aside0.mk hc0
 clear hr0 hc0
 have HB := Aside0.mk (Below.refl w.heap.size w)
 have H : ((feature_transform.f k l0).bind fun t101 => (feature_spectrum.l0 k t101 (t101.length : Int) 0)) = some r := h
 clear h
 replace H := Option.bind_eq_some_iff.mp H
 obtain ⟨t101, A20, H⟩ := H
 try dsimp only at H
 have A2 := Aside0.mk A20
 clear A20
 have H' := Aside0.mk H
 clear H
 go_enter Tryd.func112, Tryd.ntmps112
 go_wp2_with (first | ((with_reducible refine gate_callee (f := 84) rfl ?_); refine goesL_ (some 6) rfl rfl Tryd.func84 (by kernel_rfl) rfl #[.slice A0 l0.length c0] rfl tL ?_; (with_reducible refine (feature_transform.calls k _ _ l0 t101 _ ?side3 ?side1 ?side2 A2.out).mono ?_); (case side1 => exact tC HR0.out); (case side2 => exact HC0.out); (case side3 => exact tC HRT.out); rintro e w3 ⟨v102, rfl, ho0, hb⟩; refine ⟨_, rfl, ?_⟩; have HO103 := Aside0.mk (Kd.R_lower ho0 (below_size tB)); replace HB := Aside0.mk (below_step tB hb); (try clear hb); (try clear hb2); (try clear hk); (try clear hi); (try clear ho0); obtain ⟨Ao4, co4, eo4⟩ := Kd.R_slice HO103.out; subst eo4))
 go_loopg [9] k (fun kq v9 w' => ∃ (x3_1 : List Int) (x9_1 : Int), v9 = .int .i64 x9_1 ∧ Aside0 (feature_spectrum.l0 kq x3_1 (t101.length : Int) x9_1 = some r) ∧ Aside0 (kq ≤ k) ∧ Aside0 (Kd.R (Kd.int .i64) 3 w' w.heap.size (fun _ => True) (.slice Ao4 t101.length co4) x3_1) ∧ Aside0 (Below w.heap.size w w'))
 case atStart => exact ⟨(t101), (0), (by first | rfl | (simp; done) | (simp only [i64_w]; done) | (simp [*]; done)), H', ⟨Nat.le_refl _⟩, ⟨tR HO103.out⟩, ⟨tB⟩⟩
 case round =>
  clear H'
  try clear c1
  try clear p2
  obtain ⟨x3_1, x9_1, rfl, HA, HK1, HO_3, HB⟩ := hrel
  have hl3_1 := (Kd.R_reads' HO_3.out).1
  rw [hl3_1] at HO_3
  (try simp only [hl3_1])
  cases gk with
  | zero => exact absurd HA.out (by simp [feature_spectrum.l0])
  | succ k1 =>
   have H := HA.out
   clear HA
   simp only [feature_spectrum.l0] at H
   by_cases c5 : x9_1 < (t101.length : Int)
   ·rw [if_pos c5] at H
    have c5b0 := decide_eq_true c5
    (try simp only [hl3_1] at c5b0)
    clear c5
    by_cases c6 : 0 ≤ x9_1
    ·rw [if_pos c6] at H
     have c6b0 := decide_eq_true c6
     clear c6
     by_cases c7 : x9_1 < (x3_1.length : Int)
     ·rw [if_pos c7] at H
      have c7b0 := decide_eq_true c7
      (try simp only [hl3_1] at c7b0)
      clear c7
      replace H := Option.bind_eq_some_iff.mp H
      obtain ⟨t105, A80, H⟩ := H
      try dsimp only at H
      have A8 := Aside0.mk A80
      clear A80
      obtain ⟨y106, hy106⟩ : ∃ y_ : List Int, y_ = (x3_1.set (x9_1 : Int).toNat t105) := ⟨_, rfl⟩
      replace H : (feature_spectrum.l0 k1 y106 (t101.length : Int) (wrap64 (x9_1 + 1))) = some r := by first | (rw [hy106]; with_reducible exact H) | (have H2_ := (Option.bind_some _ _).symm.trans H; rw [hy106]; with_reducible exact H2_) | (have H2_ := (Option.bind_some _ _).symm.trans H; with_reducible exact H2_) | with_reducible exact H | (rw [hy106]; exact H) | exact H
      have Ny106 := Aside0.mk hy106
      clear hy106
      have H' := Aside0.mk H
      clear H
      have p104 : 0 ≤ (x9_1 : Int) := of_decide_eq_true tA
      have q104 : x9_1 < (x3_1.length : Int) := of_decide_eq_true tA
      obtain ⟨ad104, e104, hx104_0⟩ := Kd.at_int (Kd.R_reads' HO_3.out).2.2 x9_1 p104 q104
      cases e104
      replace p104 := eq_true p104
      replace q104 := eq_true q104
      go_wp2_with (first | ((with_reducible refine gate_callee (f := 147) rfl ?_); refine goesL_ (some 18) rfl rfl Tryd.func147 (by kernel_rfl) rfl #[.int .i64 (rd x3_1 x9_1), .int .i64 16384] rfl tL ?_; (with_reducible refine (feature_rounded.calls k1 (rd x3_1 x9_1) 16384 t105 _ A8.out).mono ?_); rintro e w' ⟨rfl, ⟨nd, rfl⟩⟩; refine ⟨_, rfl, ?_⟩; (try (rw [drewN_self wr]; generalize hq_ : World.drewN wr _ = wr; have n0_ : Aside0 (Kd.R (Kd.int .i64) 3 wr w.heap.size (fun _ => True) (.slice (some ad104) x3_1.length co4) x3_1) := ⟨by rw [← hq_]; exact (tR HO_3.out)⟩; have n1_ : Aside0 (Below w.heap.size w wr) := ⟨by rw [← hq_]; exact tB⟩; clear HO_3 HB hq_; have HO_3 := n0_; have HB := n1_; clear n0_ n1_)); have p9 : 0 ≤ (x9_1 : Int) := of_decide_eq_true tA; have q9 : (x9_1 : Int) < ((x3_1.length : Int) : Int) := of_decide_eq_true tA; obtain ⟨go9, co9, eo9, gb9, gl9, cl9, HG9⟩ := Kd.R_form HO_3.out (by omega); (first | cases eo9 | (injection eo9 with ea_ en_ ec_; (first | subst ea_ | (injection ea_ with ea_; subst ea_)); subst ec_; clear en_)); have GB9 := Aside0.mk gb9; have GG9 := Aside0.mk HG9; clear gb9 gl9 HG9; (first | simp only [add_plain] at hx104_0 | skip); obtain ⟨hx9_0, hf9_0⟩ := Kd.R_celln 0 HO_3.out (x9_1 : Int) p9 q9; replace p9 := eq_true p9; replace q9 := eq_true q9; obtain ⟨hy10_, hz10_⟩ := Kd.R_celln 0 HO_3.out (x9_1 : Int) (of_decide_eq_true tA) (of_decide_eq_true tA); have HP10 := Kd.R_putg HO_3.out (x9_1 : Int) t105) | ((with_reducible refine gate_store (t := 3) (p := 19) rfl ?_); refine store_event (t := 3) (p := 19) (v := ?vo_w11) (w1 := (wr.setCell ⟨go9, (x9_1 : Int).toNat, none⟩ (.int .i64 t105))) ?hg ?ho ?hn ?hr ?_; (case ho => rfl); (case hg => rfl); (case hn => rfl); (case hr => first | (go_simp; done) | (go_simp; rfl)); intro w11 hw; have hg : wr.grownBy w11 (some go9) := (by rw [hw]; exact HP10.2); have hp_ : Kd.R (Kd.int .i64) 3 w11 w.heap.size (fun _ => True) (.slice (some ⟨go9, 0, none⟩) x3_1.length co4) y106 := (by rw [hw, Ny106.out]; exact HP10.1); clear HP10; replace HO_3 := Aside0.mk (hp_); replace HB := Aside0.mk ((by rw [hw]; exact below_set (HB.out) GB9.out : Below w.heap.size w w11)); clear hg hw hp_))
      (try simp only [← hl3_1])
      go_roundg k1
      case measure => have := HK1.out; omega
      case rel => exact ⟨(y106), (wrap64 (x9_1 + 1)), (by first | rfl | (simp; done) | (simp only [i64_w]; done) | (simp [*]; done)), H', ⟨by have := HK1.out; omega⟩, ⟨by (try simp only [hl3_1]); exact tR HO_3.out⟩, ⟨tB⟩⟩
     ·rw [if_neg c7] at H
      exact absurd H (by simp)
    ·rw [if_neg c6] at H
     exact absurd H (by simp)
   ·rw [if_neg c5] at H
    have c5b0 := decide_eq_false c5
    (try simp only [hl3_1] at c5b0)
    clear c5
    obtain rfl := Option.some.inj H
    go_wp2
    go_ret
    exact ⟨_, by first | rfl | (simp [errW_none, errW_some] <;> rfl) | (simp [*, errW_none, errW_some] <;> rfl), tR HO_3.out, tB⟩

end Go.Proofs.YtdlbmbijobcljaaDoor.X

-- By a program of this session's own (wip/print), after the kit's print.
namespace Go.Proofs.YtdlbmbijobcljaaDoor.X
open Go.RowKit Go.Proofs.YtdlbmbijobcljaaDoorW.PrintWords Go.Proofs.YtdlbmbijobcljaaDoorW.PrintLast Go.Proofs.YtdlbmbijobcljaaDoorW.PrintMore
attribute [local go_sem] max2_int min2_int max_two min_two max_three min_three max_four min_four   -- for this text's walks alone
set_option linter.unusedVariables false
set_option linter.unusedSimpArgs false

/-! ### feature_fitting: function 102 -/
def feature_fitting.l0 : Nat → Int → Int → Option (Int)
 | 0, _, _ => none
 | k + 1, x0, x3 => if x3 < x0 then (feature_fitting.l0 k x0 (wrap64 (x3 * 2))) else (some x3)
def feature_fitting.f (k : Nat) (a0 : Int) : Option (Int) := feature_fitting.l0 k a0 1
theorem feature_fitting.mono_l : ∀ k, (∀ y0 y1, LeO (feature_fitting.l0 k y0 y1) (feature_fitting.l0 (k + 1) y0 y1))
 | 0 => fun _ _ r h => by simp [feature_fitting.l0] at h
 | k + 1 => by
  have ih0 := feature_fitting.mono_l k
  ·intro y0 y1
   unfold feature_fitting.l0
   repeat' first
   | (with_reducible exact ih0 _ _)
   | (with_reducible exact LeO.refl _)
   | (with_reducible exact LeO.none _)
   | (with_reducible refine LeO.ite ?_ ?_)
   | (with_reducible refine LeO.bind ?_ (fun _ => ?_))
   | exact ih0 _ _
   | exact LeO.none _
   | refine LeO.ite ?_ ?_
   | refine LeO.bind ?_ (fun _ => ?_)
theorem feature_fitting.mono : ∀ a0 k, LeO (feature_fitting.f k a0) (feature_fitting.f (k + 1) a0) := by
 intro a0 k
 have ih0 := feature_fitting.mono_l k
 unfold feature_fitting.f
 repeat' first
   | (with_reducible exact ih0 _ _)
   | (with_reducible exact LeO.refl _)
   | (with_reducible exact LeO.none _)
   | (with_reducible refine LeO.ite ?_ ?_)
   | (with_reducible refine LeO.bind ?_ (fun _ => ?_))
   | exact ih0 _ _
   | exact LeO.none _
   | refine LeO.ite ?_ ?_
   | refine LeO.bind ?_ (fun _ => ?_)
set_option maxHeartbeats 8000000 in
set_option maxRecDepth 100000 in
theorem feature_fitting.calls (k : Nat) (a0 : Int) (r : Int) (w : World) (h : feature_fitting.f k a0 = some r) :
  Calls Tryd.prog 102 #[.int .i64 a0] w fun e w' => e = .returned (.int .i64 r) ∧ Drawn0 w w' := by
 have H : (feature_fitting.l0 k a0 1) = some r := h
 clear h
 have H' := Aside0.mk H
 clear H
 go_enter Tryd.func102, Tryd.ntmps102
 go_wp2
 go_loopg [3] k (fun kq v3 w' => ∃ (x3_1 : Int), v3 = .int .i64 x3_1 ∧ Aside0 (feature_fitting.l0 kq a0 x3_1 = some r) ∧ Aside0 (kq ≤ k) ∧ Drawn0 w w')
 case atStart => exact ⟨(1), (by first | rfl | (simp; done) | (simp only [i64_w]; done) | (simp [*]; done)), H', ⟨Nat.le_refl _⟩, by repeat (first | exact Drawn0.refl _ | apply Drawn0.step)⟩
 case round =>
  clear H'
  try clear c1
  obtain ⟨x3_1, rfl, HA, HK1, ⟨m1, rfl⟩⟩ := hrel
  cases gk with
  | zero => exact absurd HA.out (by simp [feature_fitting.l0])
  | succ k1 =>
   have H := HA.out
   clear HA
   simp only [feature_fitting.l0] at H
   by_cases c2 : x3_1 < a0
   ·rw [if_pos c2] at H
    have c2b0 := decide_eq_true c2
    clear c2
    have H' := Aside0.mk H
    clear H
    go_wp2
    go_roundg k1
    case measure => have := HK1.out; omega
    case rel => exact ⟨(wrap64 (x3_1 * 2)), (by first | rfl | (simp; done) | (simp only [i64_w]; done) | (simp [*]; done)), H', ⟨by have := HK1.out; omega⟩, by repeat (first | exact Drawn0.refl _ | apply Drawn0.step)⟩
   ·rw [if_neg c2] at H
    have c2b0 := decide_eq_false c2
    clear c2
    obtain rfl := Option.some.inj H
    go_wp2
    go_ret
    exact ⟨by first | rfl | (simp; done) | (simp [*]; done), by repeat (first | exact Drawn0.refl _ | apply Drawn0.step)⟩

end Go.Proofs.YtdlbmbijobcljaaDoor.X

namespace Go.Proofs.YtdlbmbijobcljaaDoor.X
open Go.RowKit Go.Proofs.YtdlbmbijobcljaaDoorW.PrintWords Go.Proofs.YtdlbmbijobcljaaDoorW.PrintLast Go.Proofs.YtdlbmbijobcljaaDoorW.PrintMore
set_option linter.unusedVariables false
set_option linter.unusedSimpArgs false

/-- The built-in copy into a row of numbers of the call's own. -/
theorem R_copy {P : Program} {w w0 : World} {ops : Array Oper} {rest : List Oper} {o : Oper} {a : Act} {Q : Exit → Act → World → Prop} (hgd : o.guard = none) (d s : Operand) (T e : TypeId)
    (ho : o.op = .call { callee := .builtin .copy, args := #[d, s], argTypes := #[T, T] }) (hu : P.underlying T = some (.slice e)) (hsz : (P.info? e).map (·.size) = some 1)
    {k : IntKind} {B base : Nat} {ok : Nat → Prop} {v : Value} {xs ys : List Int} {A : Option Addr} {c : Nat} (hd : a.eval d = v) (hs : a.eval s = .slice A ys.length c)
    (HO : Kd.R (Kd.int k) e w base ok v xs) (HR : Kd.C (Kd.int k) w A ys.length ys) (hb : Below B w0 w) (hB : B ≤ base)
    (h : ∀ w', Kd.R (Kd.int k) e w' base ok v (ys.take xs.length ++ xs.drop ys.length) → Below B w0 w' → w.grownBy w' v.ownBlock → wpList P ops Q rest (a.put o.dst (goInt (min ys.length xs.length : Nat))) w') :
    wpList P ops Q (o :: rest) a w := by
  have hown := Kd.own_of_R HO
  obtain ⟨hl, hf⟩ := hown
  have hok := HO.1
  rcases hf with ⟨rfl, h0⟩ | ⟨g, cap, cur, rfl, hbg, hh, hnc, hcm, hcs, ht⟩
  · have hx : xs = [] := List.eq_nil_of_length_eq_zero h0
    subst hx
    refine wpList_copy_nothing hgd d s T T ho e hu hsz none A 0 0 ys.length c hd hs (by simp) ?_
    have := h w (by simpa using HO) hb (grown_of_below (Below.refl _ _) _)
    simpa using this
  · have hlen : (nums k (ys.take xs.length)).length = min ys.length xs.length := by rw [nums_length, List.length_take, Nat.min_comm]
    have hcur : cur = cur.toList.toArray := by simp
    rw [hcur] at hh
    have hc2 : xs.length ≤ cur.toList.length := by simp only [Array.length_toList]; omega
    by_cases hz0 : min ys.length xs.length = 0
    · refine wpList_copy_nothing hgd d s T T ho e hu hsz (some ⟨g, 0, none⟩) A xs.length cap ys.length c hd hs (by simpa [Nat.min_def] using hz0) ?_
      have e1 : ys.take xs.length ++ xs.drop ys.length = xs := by
        rcases Nat.le_total ys.length xs.length with h | h
        · rw [Nat.min_eq_left h] at hz0
          have : ys = [] := List.eq_nil_of_length_eq_zero hz0
          subst this; simp
        · rw [Nat.min_eq_right h] at hz0
          have : xs = [] := List.eq_nil_of_length_eq_zero hz0
          subst this; simp
      have := h w (by rw [e1]; exact HO) hb (grown_of_below (Below.refl _ _) _)
      rw [hz0] at this
      exact this
    obtain ⟨ad, he, hc⟩ := HR.2.2 (by omega)
    subst he
    refine wpList_copy_own hgd d s T T ho e hu hsz g 0 xs.length cap ad ys.length c hd hs cur.toList.toArray e hh (nums k (ys.take xs.length)) hlen ?_ ?_ ?_ ?_
    · intro j u hj
      have hj' := (List.getElem?_eq_some_iff.1 hj).1
      rw [hlen] at hj'
      have hy : ys[j]? = some (ys[j]'(by omega)) := List.getElem?_eq_getElem _
      obtain ⟨cs, _, hr, hcell⟩ := hc j _ hy
      have hcs' : cs = [.int k (ys[j]'(by omega))] := hr
      have := hcell 0 (.int k (ys[j]'(by omega))) (by rw [hcs']; rfl)
      simp only [Nat.add_zero] at this
      have hu' : u = .int k (ys[j]'(by omega)) := by
        have e1 : (nums k (ys.take xs.length))[j]? = some (.int k (ys[j]'(by omega))) := by
          simp only [nums, List.getElem?_map]
          rw [List.getElem?_take_of_lt (by omega), hy]; rfl
        rw [e1] at hj
        exact (Option.some.inj hj).symm
      rw [hu']
      have hz : (Kd.int k).sz = 1 := rfl
      rw [hz, Nat.mul_one] at this
      exact this
    · rw [Nat.zero_add, hlen]; simp only [List.size_toArray]; omega
    · intro u hu'
      simp only [nums, List.mem_map] at hu'
      obtain ⟨x, _, rfl⟩ := hu'
      rfl
    · have hw' := setRow_heap w g cur.toList.toArray (cur.toList.take 0 ++ (nums k (ys.take xs.length) ++ cur.toList.drop (0 + (nums k (ys.take xs.length)).length))).toArray e (0, 0) hh
      have hb' : Below B w0 (w.setRow g (cur.toList.take 0 ++ (nums k (ys.take xs.length) ++ cur.toList.drop (0 + (nums k (ys.take xs.length)).length))).toArray) := below_setRow hb (Nat.le_trans hB hbg) _
      have hgr : w.grownBy (w.setRow g (cur.toList.take 0 ++ (nums k (ys.take xs.length) ++ cur.toList.drop (0 + (nums k (ys.take xs.length)).length))).toArray) (some g) := ⟨rfl, rfl, rfl, by simp [World.setRow], fun k hk hne => setRow_other w g k _ (fun he => hne (by rw [he]))⟩
      have e0 : goInt ((nums k (ys.take xs.length)).length : Nat) = goInt (min ys.length xs.length : Nat) := by rw [hlen]
      rw [e0]
      have hzl : (ys.take xs.length ++ xs.drop ys.length).length = xs.length := by rw [List.length_append, List.length_take, List.length_drop]; omega
      refine h _ ?_ hb' hgr
      refine Kd.R_of_own (h1 := fun _ => rfl) (ok := ok) ⟨?_, .inr ⟨g, cap, (splice cur.toList 0 (nums k (ys.take xs.length))).toArray, ?_, hbg, hw', ?_, hcm, ?_, ?_⟩⟩ hok
      · rw [Nat.mul_one]; simp [encs]
      · rw [hzl]
      · rw [hzl]; exact hnc
      · have := length_splice cur.toList 0 (nums k (ys.take xs.length)) (by rw [Nat.zero_add, hlen]; omega)
        simp only [List.size_toArray]
        rw [this, Array.length_toList]
        exact hcs
      · simp only [Nat.mul_one]
        rw [hzl]
        have ht' : cur.toList.take xs.length = nums k xs := by
          have := ht
          rw [Nat.mul_one] at this
          exact this
        have hdrop : (cur.toList.drop (min ys.length xs.length)).take (xs.length - min ys.length xs.length) = nums k (xs.drop (min ys.length xs.length)) := by
          rw [← List.drop_take, ht']
          simp [nums]
        have e1 : splice cur.toList 0 (nums k (ys.take xs.length)) = nums k (ys.take xs.length) ++ cur.toList.drop (min ys.length xs.length) := by
          unfold splice
          rw [List.take_zero, List.nil_append, Nat.zero_add, hlen]
        rw [e1, List.take_append, hlen, List.take_of_length_le (by rw [hlen]; omega), hdrop]
        have e2 : xs.drop (min ys.length xs.length) = xs.drop ys.length := by
          rcases Nat.le_total ys.length xs.length with h | h
          · rw [Nat.min_eq_left h]
          · rw [Nat.min_eq_right h, List.drop_of_length_le (Nat.le_refl _), List.drop_of_length_le h]
        rw [e2]
        exact (nums_append k _ _).symm
end Go.Proofs.YtdlbmbijobcljaaDoor.X

namespace Go.Proofs.YtdlbmbijobcljaaDoor.X
open Go.RowKit Go.Proofs.YtdlbmbijobcljaaDoorW.PrintWords Go.Proofs.YtdlbmbijobcljaaDoorW.PrintLast Go.Proofs.YtdlbmbijobcljaaDoorW.PrintMore
set_option linter.unusedVariables false
set_option linter.unusedSimpArgs false

/-- A list cut or filled up with zeros to a length. -/
def filled (l : List Int) (n : Nat) : List Int := l.take n ++ List.replicate (n - l.length) 0
theorem filled_eq (l : List Int) (n : Nat) : filled l n = l.take (List.replicate n (0 : Int)).length ++ (List.replicate n (0 : Int)).drop l.length := by simp [filled]
def earshotref03_extended.f (l0 : List Int) (a1 : Int) : Option (List Int) := if 0 ≤ a1 ∧ a1.toNat ≤ 17592186044416 then some (filled l0 a1.toNat) else none
set_option maxHeartbeats 8000000 in
set_option maxRecDepth 100000 in
theorem earshotref03_extended.calls (A0 : Option Addr) (c0 : Nat) (l0 : List Int) (a1 : Int) (r : List Int) (w : World) (hr0 : Kd.C (Kd.int .i64) w A0 l0.length l0) (hc0 : l0.length ≤ c0) (h : earshotref03_extended.f l0 a1 = some r) :
    Calls Tryd.prog 104 #[.slice A0 l0.length c0, .int .i64 a1] w fun e w' => ∃ v0_ : Value, e = .returned (v0_) ∧ Kd.R (Kd.int .i64) 3 w' w.heap.size (fun _ => True) v0_ r ∧ Below w.heap.size w w' := by
  unfold earshotref03_extended.f at h
  by_cases hb : 0 ≤ a1 ∧ a1.toNat ≤ 17592186044416
  · rw [if_pos hb] at h
    obtain rfl := Option.some.inj h
    obtain ⟨hb0, hb1⟩ := hb
    clear h
    have HR0 := Aside0.mk hr0
    have HC0 := Aside0.mk hc0
    clear hr0 hc0
    have HB := Aside0.mk (Below.refl w.heap.size w)
    go_enter Tryd.func104, Tryd.ntmps104
    go_wp2_with (first
      | ((with_reducible refine gate_dst (N := 7) rfl ?_); refine Kd.R_make (Kd.int .i64) _ 3 rfl (N := 7) rfl 22 _ _ rfl a1 rfl rfl Tryd.underlying22 (.int .i64 0) 8 info3 rfl (by decide) (by omega) 0 (ok := fun _ => True) (okp := fun _ => True) rfl (fun _ hk => hk) trivial hb0 (by omega) (Below.refl _ _) (Nat.le_refl _) ?_; intro v102 w5 ho6 hb hg_ hnew_; clear hg_ hnew_; have HO := Aside0.mk ho6; have HB2 := Aside0.mk hb; clear ho6 hb)
      | ((with_reducible refine gate_dst (N := 10) rfl ?_); refine R_copy rfl (.tmp 8) (.tmp 9) 22 3 rfl Tryd.underlying22 (by kernel_rfl) (B := w.heap.size) (w0 := w) rfl rfl HO.out (Kd.C_below HR0.out HB2.out) HB2.out (Nat.le_refl _) ?_; intro w6 ho hb hgr_; clear hgr_; have HO2 := Aside0.mk ho; have HB3 := Aside0.mk hb; clear ho hb))
    go_ret
    exact ⟨_, rfl, by rw [filled_eq]; exact HO2.out, HB3.out⟩
  · rw [if_neg hb] at h
    exact absurd h (by simp)
end Go.Proofs.YtdlbmbijobcljaaDoor.X

namespace Go.Proofs.YtdlbmbijobcljaaDoor.X
open Go.RowKit Go.Proofs.YtdlbmbijobcljaaDoorW.PrintWords Go.Proofs.YtdlbmbijobcljaaDoorW.PrintLast Go.Proofs.YtdlbmbijobcljaaDoorW.PrintMore
set_option linter.unusedVariables false
set_option linter.unusedSimpArgs false

def feature_cepstrum.f (k : Nat) (l0 : List Int) (a1 : Int) : Option (List Int) :=
  (feature_fitting.f k (l0.length : Int)).bind fun n => if 0 ≤ n ∧ n.toNat ≤ 17592186044416 then (feature_spectrum.f k (filled l0 n.toNat)).bind fun s => if 0 ≤ a1 ∧ a1 ≤ s.length then some (s.take a1.toNat) else none else none
theorem feature_cepstrum.mono : ∀ a0 a1 k, LeO (feature_cepstrum.f k a0 a1) (feature_cepstrum.f (k + 1) a0 a1) := by
  intro a0 a1 k
  unfold feature_cepstrum.f
  exact LeO.bind (feature_fitting.mono _ k) (fun n => LeO.ite (LeO.bind (feature_spectrum.mono _ k) (fun s => LeO.refl _)) (LeO.refl _))
theorem info3' : ∃ i, Tryd.prog.info? 3 = some i := by
  cases h : Tryd.prog.info? 3 with
  | some i => exact ⟨i, rfl⟩
  | none => have := info3; rw [h] at this; simp at this
theorem cut_hm {P : Program} (t e : TypeId) (kh : IntKind) (ht : P.underlying t = some (.slice e)) (hi : ∃ i, P.info? e = some i) (A : Option Addr) (n c : Nat) (j : Int) (h0 : 0 ≤ j) (hm : j ≤ n) (hc : n ≤ c) :
    ∀ W : World, (Instr.slice t (.slice A n c) none (some (.int kh j)) (some (.int kh j))).run P W = .ok (.slice A j.toNat j.toNat) W := by
  intro W
  obtain ⟨i, hi⟩ := hi
  have hel : P.elem t = e := by simp [Program.elem, ht]
  have hu : P.underlying t = some (.slice (P.elem t)) := by rw [hel]; exact ht
  have ha : (A.map fun x => x.add 0) = A := by cases A <;> simp [Addr.add]
  rw [run_slice_hm W t A n c hu kh kh j j h0 (Int.le_refl _) (by omega), hel]
  simp [sizeOf, typeInfo, hi, sliced, Result.andThen, ha]
/-- A cut's beginning, read alone. -/
theorem V_cut {w : World} {base b : Nat} {ok ok' : Nat → Prop} {A : Option Addr} {n c : Nat} {xs : List Int} (hok : ∀ k, (Value.slice A n c).ownBlock = some k → ok' k) (h : Kd.R (Kd.int .i64) 3 w base ok (.slice A n c) xs) (m : Nat) (hm : m ≤ xs.length) :
    Kd.V (Kd.int .i64) 3 w b ok' (.slice A m m) (xs.take m) := by
  have hl : (xs.take m).length = m := by rw [List.length_take]; omega
  refine ⟨A, m, by rw [hl], by rw [hl]; exact Nat.le_refl _, ?_⟩
  rw [hl]
  intro W' hW'
  have hR : Kd.R (Kd.int .i64) 3 W' base (fun k => (Value.slice A n c).ownBlock = some k) (.slice A n c) xs := by
    have ht := Kd.R_of_own (h1 := fun _ => rfl) (ok := fun k => (Value.slice A n c).ownBlock = some k) (Kd.own_of_R h) (fun k hk => hk)
    exact Kd.R_step ht (fun k hk hlt => hW' k (hok k hk) hlt)
  have hC := (Kd.R_reads' hR).2.2
  have := Kd.C_take hC hm
  rwa [hl] at this
set_option maxHeartbeats 8000000 in
set_option maxRecDepth 100000 in
theorem feature_cepstrum.calls (k : Nat) (A0 : Option Addr) (c0 : Nat) (l0 : List Int) (a1 : Int) (r : List Int) (w : World) (ht : Kd.C (Kd.int .i64) w (some ⟨0, 0, none⟩) 65 tabL) (hr0 : Kd.C (Kd.int .i64) w A0 l0.length l0) (hc0 : l0.length ≤ c0) (h : feature_cepstrum.f k l0 a1 = some r) :
    Calls Tryd.prog 103 #[.slice A0 l0.length c0, .int .i64 a1] w fun e w' => ∃ v0_ : Value, e = .returned (v0_) ∧ Kd.V (Kd.int .i64) 3 w' w.heap.size (fun k_ => (w.heap.size ≤ k_)) v0_ r ∧ Below w.heap.size w w' := by
  unfold feature_cepstrum.f at h
  obtain ⟨n, hn, h⟩ := Option.bind_eq_some_iff.1 h
  by_cases hb : 0 ≤ n ∧ n.toNat ≤ 17592186044416
  · rw [if_pos hb] at h
    obtain ⟨s, hs, h⟩ := Option.bind_eq_some_iff.1 h
    by_cases ha : 0 ≤ a1 ∧ a1 ≤ s.length
    · rw [if_pos ha] at h
      obtain rfl := Option.some.inj h
      obtain ⟨hb0, hb1⟩ := hb
      obtain ⟨ha0, ha1⟩ := ha
      clear h
      have HRT := Aside0.mk ht
      clear ht
      have HR0 := Aside0.mk hr0
      have HC0 := Aside0.mk hc0
      clear hr0 hc0
      have HN := Aside0.mk hn
      have HS := Aside0.mk hs
      clear hn hs
      have hcut := fun (A : Option Addr) (c : Nat) (hc : s.length ≤ c) => cut_hm (P := Tryd.prog) 22 3 .i64 Tryd.underlying22 info3' A s.length c a1 ha0 ha1 hc
      have HCUT := Aside0.mk hcut
      clear hcut
      go_enter Tryd.func103, Tryd.ntmps103
      go_wp2_with (first
        | (go_at_call 102; (with_reducible refine (feature_fitting.calls k _ n _ HN.out).mono ?_); rintro e w' ⟨rfl, ⟨nd, rfl⟩⟩; have HB := Aside0.mk (pw_below_drewN (Below.refl w.heap.size w) nd))
        | ((with_reducible refine gate_dst (N := 9) rfl ?_); refine Kd.R_make (Kd.int .i64) _ 3 rfl (N := 9) rfl 22 _ _ rfl n rfl rfl Tryd.underlying22 (.int .i64 0) 8 info3 rfl (by decide) (by omega) 0 (ok := fun _ => True) (okp := fun _ => True) rfl (fun _ hk => hk) trivial hb0 (by omega) (Below.refl _ _) (Nat.le_refl _) ?_; intro v102 w5 ho6 hb hg_ hnew_; clear hg_ hnew_; have HO := Aside0.mk (Kd.R_lower ho6 (below_size HB.out)); have HB2 := Aside0.mk (below_step HB.out hb); clear ho6 hb)
        | ((with_reducible refine gate_dst (N := 12) rfl ?_); refine R_copy rfl (.tmp 10) (.tmp 11) 22 3 rfl Tryd.underlying22 (by kernel_rfl) (B := w.heap.size) (w0 := w) rfl rfl HO.out (Kd.C_below HR0.out HB2.out) HB2.out (Nat.le_refl _) ?_; intro w6 ho hb hgr_; clear hgr_; rw [← filled_eq] at ho; have HO2 := Aside0.mk ho; have HB3 := Aside0.mk hb; obtain ⟨Ao, co, eo⟩ := Kd.R_slice ho; subst eo; clear ho hb)
        | (go_at_call 112; (with_reducible refine (feature_spectrum.calls k _ _ (filled l0 n.toNat) s _ ?sideT ?side1 ?side2 HS.out).mono ?_); (case sideT => exact Kd.C_below HRT.out HB3.out); (case side1 => exact (Kd.R_reads' HO2.out).2.2); (case side2 => exact (Kd.R_reads' HO2.out).2.1); rintro e w7 ⟨v2, rfl, ho, hb⟩; have HO3 := Aside0.mk ho; have HB4 := Aside0.mk (below_step HB3.out hb); obtain ⟨A2, c2, e2⟩ := Kd.R_slice ho; subst e2; have hs2 := HCUT.out A2 c2 (Kd.R_reads' ho).2.1; clear ho hb))
      go_ret
      exact ⟨_, rfl, V_cut (fun k_ hk => Nat.le_trans (below_size HB3.out) (Kd.R_base HO3.out k_ hk)) HO3.out a1.toNat (by omega), HB4.out⟩
    · rw [if_neg ha] at h
      exact absurd h (by simp)
  · rw [if_neg hb] at h
    exact absurd h (by simp)
end Go.Proofs.YtdlbmbijobcljaaDoor.X

-- By a program of this session's own (wip/print), after the kit's print.
namespace Go.Proofs.YtdlbmbijobcljaaDoor.X
open Go.RowKit Go.Proofs.YtdlbmbijobcljaaDoorW.PrintWords Go.Proofs.YtdlbmbijobcljaaDoorW.PrintLast Go.Proofs.YtdlbmbijobcljaaDoorW.PrintMore
attribute [local go_sem] max2_int min2_int max_two min_two max_three min_three max_four min_four   -- for this text's walks alone
set_option linter.unusedVariables false
set_option linter.unusedSimpArgs false

/-! ### feature_Cepstrum: function 39 -/
def feature_Cepstrum.f (k : Nat) (l0 : List Int) (a1 : Int) : Option (List Int × Int) := if (l0.length : Int) < 1 then (some (([] : List Int), 2)) else (if (l0.length : Int) > 64 then (some (([] : List Int), 2)) else ((feature_within.f l0 65536).bind fun t101 => (if t101 = true then (if a1 < 1 then (some (([] : List Int), 2)) else ((feature_fitting.f k (l0.length : Int)).bind fun t102 => (if a1 > t102 then (some (([] : List Int), 2)) else ((feature_cepstrum.f k l0 a1).bind fun t103 => (some (t103, 0)))))) else (some (([] : List Int), 2)))))
theorem feature_Cepstrum.mono : ∀ a0 a1 k, LeO (feature_Cepstrum.f k a0 a1) (feature_Cepstrum.f (k + 1) a0 a1) := by
 intro a0 a1 k
 unfold feature_Cepstrum.f
 repeat' first
   | (with_reducible exact feature_cepstrum.mono _ _ _)
   | (with_reducible exact feature_fitting.mono _ _)
   | (with_reducible exact LeO.refl _)
   | (with_reducible exact LeO.none _)
   | (with_reducible refine LeO.ite ?_ ?_)
   | (with_reducible refine LeO.bind ?_ (fun _ => ?_))
   | exact feature_cepstrum.mono _ _ _
   | exact feature_fitting.mono _ _
   | exact LeO.none _
   | refine LeO.ite ?_ ?_
   | refine LeO.bind ?_ (fun _ => ?_)
set_option maxHeartbeats 8000000 in
set_option maxRecDepth 100000 in
theorem feature_Cepstrum.calls (k : Nat) (A0 : Option Addr) (c0 : Nat) (l0 : List Int) (a1 : Int) (r1 : List Int) (r2 : Int) (w : World) (ht : Kd.C (Kd.int .i64) w (some ⟨0, 0, none⟩) 65 tabL) (hr0 : Kd.C (Kd.int .i64) w A0 l0.length l0) (hc0 : l0.length ≤ c0) (h : feature_Cepstrum.f k l0 a1 = some (r1, r2)) :
  Calls Tryd.prog 39 #[.slice A0 l0.length c0, .int .i64 a1] w fun e w' => ∃ v0_ : Value, e = .returned (.tuple #[v0_, .int .i64 r2]) ∧ Kd.V (Kd.int .i64) 3 w' w.heap.size (fun k_ => (w.heap.size ≤ k_)) v0_ r1 ∧ Below w.heap.size w w' := by
 have HRT := Aside0.mk ht
 clear ht
 have HR0 := Aside0.mk hr0
 have HC0 := Aside0.mk hc0
 clear hr0 hc0
 have HB := Aside0.mk (Below.refl w.heap.size w)
 have H : (if (l0.length : Int) < 1 then (some (([] : List Int), 2)) else (if (l0.length : Int) > 64 then (some (([] : List Int), 2)) else ((feature_within.f l0 65536).bind fun t101 => (if t101 = true then (if a1 < 1 then (some (([] : List Int), 2)) else ((feature_fitting.f k (l0.length : Int)).bind fun t102 => (if a1 > t102 then (some (([] : List Int), 2)) else ((feature_cepstrum.f k l0 a1).bind fun t103 => (some (t103, 0)))))) else (some (([] : List Int), 2)))))) = some (r1, r2) := h
 clear h
 by_cases c3 : (l0.length : Int) < 1
 ·rw [if_pos c3] at H
  have c3b0 := decide_eq_true c3
  have c3b1 : decide (l0.length < 1) = true := decide_eq_true (by omega)
  clear c3
  simp only [Option.some.injEq, Prod.mk.injEq] at H
  obtain ⟨rfl, rfl⟩ := H
  go_enter Tryd.func39, Tryd.ntmps39
  go_wp2
  go_ret2
  exact ⟨_, by first | rfl | (simp [errW_none, errW_some] <;> rfl) | (simp [*, errW_none, errW_some] <;> rfl), Kd.R_V (base := 0) (by first | exact Kd.R_nil _ _ _ _ _ | exact Kd.N_nil _ _ _ _ _ | exact Kd.V_nil _ _ _ _ _ | exact Kd.Q_nil _ _ _ _ _ | exact Kd.S_nil _ _ _ _ _), tB⟩
 ·rw [if_neg c3] at H
  have c3b0 := decide_eq_false c3
  have c3b1 : decide (l0.length < 1) = false := decide_eq_false (by omega)
  clear c3
  by_cases c4 : (l0.length : Int) > 64
  ·rw [if_pos c4] at H
   have c4b0 : decide (64 < (l0.length : Int)) = true := decide_eq_true c4
   have c4b1 : decide (64 < l0.length) = true := decide_eq_true (by omega)
   clear c4
   simp only [Option.some.injEq, Prod.mk.injEq] at H
   obtain ⟨rfl, rfl⟩ := H
   go_enter Tryd.func39, Tryd.ntmps39
   go_wp2
   go_ret2
   exact ⟨_, by first | rfl | (simp [errW_none, errW_some] <;> rfl) | (simp [*, errW_none, errW_some] <;> rfl), Kd.R_V (base := 0) (by first | exact Kd.R_nil _ _ _ _ _ | exact Kd.N_nil _ _ _ _ _ | exact Kd.V_nil _ _ _ _ _ | exact Kd.Q_nil _ _ _ _ _ | exact Kd.S_nil _ _ _ _ _), tB⟩
  ·rw [if_neg c4] at H
   have c4b0 : decide (64 < (l0.length : Int)) = false := decide_eq_false c4
   have c4b1 : decide (64 < l0.length) = false := decide_eq_false (by omega)
   clear c4
   replace H := Option.bind_eq_some_iff.mp H
   obtain ⟨t101, A50, H⟩ := H
   try dsimp only at H
   have A5 := Aside0.mk A50
   clear A50
   by_cases c6 : t101 = true
   ·subst c6
    have H1 : (if a1 < 1 then (some (([] : List Int), 2)) else ((feature_fitting.f k (l0.length : Int)).bind fun t102 => (if a1 > t102 then (some (([] : List Int), 2)) else ((feature_cepstrum.f k l0 a1).bind fun t103 => (some (t103, 0)))))) = some (r1, r2) := by rw [if_pos rfl] at H; exact H
    clear H
    have H := H1
    clear H1
    by_cases c7 : a1 < 1
    ·rw [if_pos c7] at H
     have c7b0 := decide_eq_true c7
     clear c7
     simp only [Option.some.injEq, Prod.mk.injEq] at H
     obtain ⟨rfl, rfl⟩ := H
     go_enter Tryd.func39, Tryd.ntmps39
     go_wp2_with (first | (go_at_call 80; (with_reducible refine (feature_within.calls _ _ l0 65536 true _ ?side1 ?side2 A5.out).mono ?_); (case side1 => exact tC HR0.out); (case side2 => exact HC0.out); rintro e w8 ⟨rfl, hb⟩; replace HB := Aside0.mk (below_step tB hb); (try clear hb); (try clear hb2); (try clear hk); (try clear hi)))
     go_ret2
     exact ⟨_, by first | rfl | (simp [errW_none, errW_some] <;> rfl) | (simp [*, errW_none, errW_some] <;> rfl), Kd.R_V (base := 0) (by first | exact Kd.R_nil _ _ _ _ _ | exact Kd.N_nil _ _ _ _ _ | exact Kd.V_nil _ _ _ _ _ | exact Kd.Q_nil _ _ _ _ _ | exact Kd.S_nil _ _ _ _ _), tB⟩
    ·rw [if_neg c7] at H
     have c7b0 := decide_eq_false c7
     clear c7
     replace H := Option.bind_eq_some_iff.mp H
     obtain ⟨t102, A90, H⟩ := H
     try dsimp only at H
     have A9 := Aside0.mk A90
     clear A90
     by_cases c10 : a1 > t102
     ·rw [if_pos c10] at H
      have c10b0 : decide (t102 < a1) = true := decide_eq_true c10
      clear c10
      simp only [Option.some.injEq, Prod.mk.injEq] at H
      obtain ⟨rfl, rfl⟩ := H
      go_enter Tryd.func39, Tryd.ntmps39
      go_wp2_with (first | (go_at_call 80; (with_reducible refine (feature_within.calls _ _ l0 65536 true _ ?side1 ?side2 A5.out).mono ?_); (case side1 => exact tC HR0.out); (case side2 => exact HC0.out); rintro e w11 ⟨rfl, hb⟩; replace HB := Aside0.mk (below_step tB hb); (try clear hb); (try clear hb2); (try clear hk); (try clear hi)) | (go_at_call 102; (with_reducible refine (feature_fitting.calls k (l0.length : Int) t102 _ A9.out).mono ?_); rintro e w' ⟨rfl, ⟨nd, rfl⟩⟩))
      go_ret2
      exact ⟨_, by first | rfl | (simp [errW_none, errW_some] <;> rfl) | (simp [*, errW_none, errW_some] <;> rfl), Kd.R_V (base := 0) (by first | exact Kd.R_nil _ _ _ _ _ | exact Kd.N_nil _ _ _ _ _ | exact Kd.V_nil _ _ _ _ _ | exact Kd.Q_nil _ _ _ _ _ | exact Kd.S_nil _ _ _ _ _), tB⟩
     ·rw [if_neg c10] at H
      have c10b0 : decide (t102 < a1) = false := decide_eq_false c10
      clear c10
      replace H := Option.bind_eq_some_iff.mp H
      obtain ⟨t103, A120, H⟩ := H
      try dsimp only at H
      have A12 := Aside0.mk A120
      clear A120
      simp only [Option.some.injEq, Prod.mk.injEq] at H
      obtain ⟨rfl, rfl⟩ := H
      go_enter Tryd.func39, Tryd.ntmps39
      go_wp2_with (first | (go_at_call 80; (with_reducible refine (feature_within.calls _ _ l0 65536 true _ ?side1 ?side2 A5.out).mono ?_); (case side1 => exact tC HR0.out); (case side2 => exact HC0.out); rintro e w13 ⟨rfl, hb⟩; replace HB := Aside0.mk (below_step tB hb); (try clear hb); (try clear hb2); (try clear hk); (try clear hi)) | (go_at_call 102; (with_reducible refine (feature_fitting.calls k (l0.length : Int) t102 _ A9.out).mono ?_); rintro e w' ⟨rfl, ⟨nd, rfl⟩⟩) | ((with_reducible refine gate_callee (f := 103) rfl ?_); refine goesL_ (some 32) rfl rfl Tryd.func103 (by kernel_rfl) rfl #[.slice A0 l0.length c0, .int .i64 a1] rfl tL ?_; (with_reducible refine (feature_cepstrum.calls k _ _ l0 a1 t103 _ ?side3 ?side1 ?side2 A12.out).mono ?_); (case side1 => exact tC (Kd.C_below HR0.out tB)); (case side2 => exact HC0.out); (case side3 => exact tC (Kd.C_below HRT.out tB)); rintro e w14 ⟨v104, rfl, ho0, hb⟩; refine ⟨_, rfl, ?_⟩; have HO105 := Aside0.mk (Kd.V_lower (Kd.V_mono (ok' := fun k_ => (w.heap.size ≤ k_)) ho0 (fun k_ hk_ => (Nat.le_trans (below_size tB) hk_))) (below_size tB)); replace HB := Aside0.mk (below_step tB hb); (try clear hb); (try clear hb2); (try clear hk); (try clear hi); (try clear ho0)))
      go_ret2
      exact ⟨_, by first | rfl | (simp [errW_none, errW_some] <;> rfl) | (simp [*, errW_none, errW_some] <;> rfl), tV HO105.out, tB⟩
   ·replace c6 := Bool.eq_false_iff.mpr c6
    subst c6
    have H1 : (some (([] : List Int), 2)) = some (r1, r2) := by rw [if_neg (show ¬ (false = true) by decide)] at H; exact H
    clear H
    have H := H1
    clear H1
    simp only [Option.some.injEq, Prod.mk.injEq] at H
    obtain ⟨rfl, rfl⟩ := H
    go_enter Tryd.func39, Tryd.ntmps39
    go_wp2_with (first | (go_at_call 80; (with_reducible refine (feature_within.calls _ _ l0 65536 false _ ?side1 ?side2 A5.out).mono ?_); (case side1 => exact tC HR0.out); (case side2 => exact HC0.out); rintro e w15 ⟨rfl, hb⟩; replace HB := Aside0.mk (below_step tB hb); (try clear hb); (try clear hb2); (try clear hk); (try clear hi)))
    go_ret2
    exact ⟨_, by first | rfl | (simp [errW_none, errW_some] <;> rfl) | (simp [*, errW_none, errW_some] <;> rfl), Kd.R_V (base := 0) (by first | exact Kd.R_nil _ _ _ _ _ | exact Kd.N_nil _ _ _ _ _ | exact Kd.V_nil _ _ _ _ _ | exact Kd.Q_nil _ _ _ _ _ | exact Kd.S_nil _ _ _ _ _), tB⟩

end Go.Proofs.YtdlbmbijobcljaaDoor.X

namespace Go.Proofs.YtdlbmbijobcljaaDoor.X
open Go.RowKit Go.Proofs.YtdlbmbijobcljaaDoorW.PrintWords Go.Proofs.YtdlbmbijobcljaaDoorW.PrintLast Go.Proofs.YtdlbmbijobcljaaDoorW.PrintMore

/-- How many binary digits a number of 32 bits has. -/
def bits_Len32.f (a0 : Int) : Option Int := if 0 ≤ a0 ∧ a0 ≤ 4294967295 then some (Lib.bitLen a0.toNat) else none
theorem bits_Len32.calls (a0 : Int) (r : Int) (w : World) (h : bits_Len32.f a0 = some r) :
    Calls Tryd.prog 128 #[.int .u32 a0] w fun e w' => e = .returned (.int .i64 r) ∧ Drawn0 w w' := by
  unfold bits_Len32.f at h
  by_cases hb : 0 ≤ a0 ∧ a0 ≤ 4294967295
  · rw [if_pos hb] at h
    obtain rfl := Option.some.inj h
    exact (len32_base a0 w hb.1 hb.2).mono fun e w' ⟨he, hw⟩ => ⟨he, by rw [hw]; exact Drawn0.refl _⟩
  · rw [if_neg hb] at h
    exact absurd h (by simp)
end Go.Proofs.YtdlbmbijobcljaaDoor.X

-- By a program of this session's own (wip/print), after the kit's print.
namespace Go.Proofs.YtdlbmbijobcljaaDoor.X
open Go.RowKit Go.Proofs.YtdlbmbijobcljaaDoorW.PrintWords Go.Proofs.YtdlbmbijobcljaaDoorW.PrintLast Go.Proofs.YtdlbmbijobcljaaDoorW.PrintMore
attribute [local go_sem] max2_int min2_int max_two min_two max_three min_three max_four min_four   -- for this text's walks alone
set_option linter.unusedVariables false
set_option linter.unusedSimpArgs false

/-! ### feature_square: function 127 -/
mutual
def feature_square.l0 : Nat → List Int → List Int → List Int → Int → Int → Option (List Int)
 | 0, _, _, _, _, _ => none
 | k + 1, x0, x3, x13, x14, x15 => if x15 < x14 then (if 0 ≤ x15 then (if x15 < (x13.length : Int) then (feature_square.l1 k x0 x3 x15 (rd x13 x15) 0 x13 x14 x15 x0 (x0.length : Int) 0) else (none)) else (none)) else (some x3)
def feature_square.l1 : Nat → List Int → List Int → Int → Int → Int → List Int → Int → Int → List Int → Int → Int → Option (List Int)
 | 0, _, _, _, _, _, _, _, _, _, _, _ => none
 | k + 1, x0, x3, x4, x5, x6, x13, x14, x15, x20, x21, x22 => if x22 < x21 then (if 0 ≤ x22 then (if x22 < (x20.length : Int) then (if 0 ≤ (wrap64 (x4 + x22)) then (if (wrap64 (x4 + x22)) < (x3.length : Int) then (feature_square.l1 k x0 (x3.set ((wrap64 (x4 + x22)) : Int).toNat ((IntKind.u64.wrap (x6 + (IntKind.u64.wrap ((IntKind.u64.wrap (rd x3 (wrap64 (x4 + x22)))) + (IntKind.u64.wrap ((IntKind.u64.wrap (x5)) * (IntKind.u64.wrap (rd x20 x22)))))))) % 4294967296)) x4 x5 ((IntKind.u64.wrap (x6 + (IntKind.u64.wrap ((IntKind.u64.wrap (rd x3 (wrap64 (x4 + x22)))) + (IntKind.u64.wrap ((IntKind.u64.wrap (x5)) * (IntKind.u64.wrap (rd x20 x22)))))))) / 4294967296) x13 x14 x15 x20 x21 (wrap64 (x22 + 1))) else (none)) else (none)) else (none)) else (none)) else (if 0 ≤ (wrap64 (x4 + (x0.length : Int))) then (if (wrap64 (x4 + (x0.length : Int))) < (x3.length : Int) then (feature_square.l0 k x0 (x3.set ((wrap64 (x4 + (x0.length : Int))) : Int).toNat ((x6) % 4294967296)) x13 x14 (wrap64 (x15 + 1))) else (none)) else (none))
end
def feature_square.f (k : Nat) (l0 : List Int) : Option (List Int) := if 0 ≤ (wrap64 (2 * (l0.length : Int))) then (if (wrap64 (2 * (l0.length : Int)) : Int).toNat ≤ 70368744177664 then (feature_square.l0 k l0 (List.replicate (wrap64 (2 * (l0.length : Int)) : Int).toNat 0) l0 (l0.length : Int) 0) else (none)) else (none)
theorem feature_square.mono_l : ∀ k, (∀ y0 y1 y2 y3 y4, LeO (feature_square.l0 k y0 y1 y2 y3 y4) (feature_square.l0 (k + 1) y0 y1 y2 y3 y4)) ∧ (∀ y0 y1 y2 y3 y4 y5 y6 y7 y8 y9 y10, LeO (feature_square.l1 k y0 y1 y2 y3 y4 y5 y6 y7 y8 y9 y10) (feature_square.l1 (k + 1) y0 y1 y2 y3 y4 y5 y6 y7 y8 y9 y10))
 | 0 => ⟨fun _ _ _ _ _ r h => by simp [feature_square.l0] at h, fun _ _ _ _ _ _ _ _ _ _ _ r h => by simp [feature_square.l1] at h⟩
 | k + 1 => by
  obtain ⟨ih0, ih1⟩ := feature_square.mono_l k
  refine ⟨?_, ?_⟩
  ·intro y0 y1 y2 y3 y4
   unfold feature_square.l0
   repeat' first
   | (with_reducible exact ih0 _ _ _ _ _)
   | (with_reducible exact ih1 _ _ _ _ _ _ _ _ _ _ _)
   | (with_reducible exact LeO.refl _)
   | (with_reducible exact LeO.none _)
   | (with_reducible refine LeO.ite ?_ ?_)
   | (with_reducible refine LeO.bind ?_ (fun _ => ?_))
   | exact ih0 _ _ _ _ _
   | exact ih1 _ _ _ _ _ _ _ _ _ _ _
   | exact LeO.none _
   | refine LeO.ite ?_ ?_
   | refine LeO.bind ?_ (fun _ => ?_)
  ·intro y0 y1 y2 y3 y4 y5 y6 y7 y8 y9 y10
   unfold feature_square.l1
   repeat' first
   | (with_reducible exact ih0 _ _ _ _ _)
   | (with_reducible exact ih1 _ _ _ _ _ _ _ _ _ _ _)
   | (with_reducible exact LeO.refl _)
   | (with_reducible exact LeO.none _)
   | (with_reducible refine LeO.ite ?_ ?_)
   | (with_reducible refine LeO.bind ?_ (fun _ => ?_))
   | exact ih0 _ _ _ _ _
   | exact ih1 _ _ _ _ _ _ _ _ _ _ _
   | exact LeO.none _
   | refine LeO.ite ?_ ?_
   | refine LeO.bind ?_ (fun _ => ?_)
theorem feature_square.mono : ∀ a0 k, LeO (feature_square.f k a0) (feature_square.f (k + 1) a0) := by
 intro a0 k
 obtain ⟨ih0, ih1⟩ := feature_square.mono_l k
 unfold feature_square.f
 repeat' first
   | (with_reducible exact ih0 _ _ _ _ _)
   | (with_reducible exact ih1 _ _ _ _ _ _ _ _ _ _ _)
   | (with_reducible exact LeO.refl _)
   | (with_reducible exact LeO.none _)
   | (with_reducible refine LeO.ite ?_ ?_)
   | (with_reducible refine LeO.bind ?_ (fun _ => ?_))
   | exact ih0 _ _ _ _ _
   | exact ih1 _ _ _ _ _ _ _ _ _ _ _
   | exact LeO.none _
   | refine LeO.ite ?_ ?_
   | refine LeO.bind ?_ (fun _ => ?_)
set_option maxHeartbeats 8000000 in
set_option maxRecDepth 100000 in
theorem feature_square.calls (k : Nat) (A0 : Option Addr) (c0 : Nat) (l0 : List Int) (r : List Int) (w : World) (hr0 : Kd.C (Kd.int .u32) w A0 l0.length l0) (hc0 : l0.length ≤ c0) (h : feature_square.f k l0 = some r) :
  Calls Tryd.prog 127 #[.slice A0 l0.length c0] w fun e w' => ∃ v0_ : Value, e = .returned (v0_) ∧ Kd.R (Kd.int .u32) 118 w' w.heap.size (fun _ => True) v0_ r ∧ Below w.heap.size w w' := by
 have HR0 := Aside0.mk hr0
 have HC0 := Aside0.mk hc0
 clear hr0 hc0
 have HB := Aside0.mk (Below.refl w.heap.size w)
 have H : (if 0 ≤ (wrap64 (2 * (l0.length : Int))) then (if (wrap64 (2 * (l0.length : Int)) : Int).toNat ≤ 70368744177664 then (feature_square.l0 k l0 (List.replicate (wrap64 (2 * (l0.length : Int)) : Int).toNat 0) l0 (l0.length : Int) 0) else (none)) else (none)) = some r := h
 clear h
 obtain ⟨ji2, hji2⟩ : ∃ j_ : Int, (wrap64 (2 * (l0.length : Int))) = j_ := ⟨_, rfl⟩
 first | rw [hji2] at H | simp only [hji2] at H
 have hji2w : (IntKind.i64.wrap (2 * (l0.length : Int))) = ji2 := (i64_w _).trans hji2
 by_cases c3 : 0 ≤ (ji2)
 ·rw [if_pos c3] at H
  have c3b0 := eq_true c3
  have c3b1 := decide_eq_true c3
  clear c3
  by_cases c4 : (ji2 : Int).toNat ≤ 70368744177664
  ·rw [if_pos c4] at H
   have c4b0 := eq_true c4
   have c4b1 := decide_eq_true c4
   clear c4
   obtain ⟨y101, hy101⟩ : ∃ y_ : List Int, y_ = (List.replicate (ji2 : Int).toNat 0) := ⟨_, rfl⟩
   replace H : (feature_square.l0 k l0 y101 l0 (l0.length : Int) 0) = some r := by first | (rw [hy101]; with_reducible exact H) | (have H2_ := (Option.bind_some _ _).symm.trans H; rw [hy101]; with_reducible exact H2_) | (have H2_ := (Option.bind_some _ _).symm.trans H; with_reducible exact H2_) | with_reducible exact H | (rw [hy101]; exact H) | exact H
   have Ny101 := Aside0.mk hy101
   clear hy101
   have H' := Aside0.mk H
   clear H
   go_enter Tryd.func127, Tryd.ntmps127
   go_wp2_with (first | ((with_reducible refine gate_dst (N := 12) rfl ?_); refine Kd.R_make (Kd.int .u32) _ 118 rfl (N := 12) rfl 101 _ _ rfl ji2 rfl rfl Tryd.underlying101 (.int .u32 0) 4 info118 rfl (by decide) (by omega) 0 (ok := fun _ => True) (okp := fun _ => True) rfl (fun _ hk => hk) trivial (of_decide_eq_true tA) (Nat.le_trans (Nat.mul_le_mul_right _ (of_decide_eq_true tA : ji2.toNat ≤ 70368744177664)) (by omega)) (Below.refl _ _) (Nat.le_refl _) ?_; intro v102 w5 ho6 hb hg_ hnew_; clear hg_ hnew_; (first | rw [← Ny101.out] at ho6 | (simp only [Int.reduceToNat] at ho6; rw [← Ny101.out] at ho6)); have HO103 := Aside0.mk (Kd.R_lower ho6 (below_size tB)); replace HB := Aside0.mk (below_step tB hb); clear hb ho6))
   go_loopg [15] k (fun kq v15 w' => ∃ (x3_1 : List Int) (x15_1 : Int), v15 = .int .i64 x15_1 ∧ Aside0 (feature_square.l0 kq l0 x3_1 l0 (l0.length : Int) x15_1 = some r) ∧ Aside0 (kq ≤ k) ∧ Aside0 (Kd.R (Kd.int .u32) 118 w' w.heap.size (fun _ => True) v102 x3_1) ∧ Aside0 (Below w.heap.size w w'))
   case atStart => exact ⟨(y101), (0), (by first | rfl | (simp; done) | (simp only [i64_w]; done) | (simp [*]; done)), H', ⟨Nat.le_refl _⟩, ⟨tR HO103.out⟩, ⟨tB⟩⟩
   case round =>
    clear H'
    try clear c1
    try clear p2
    try clear c3
    try clear c3b0
    try clear c3b1
    try clear c4
    try clear c4b0
    try clear c4b1
    try clear p6
    obtain ⟨x3_1, x15_1, rfl, HA, HK1, HO_3, HB⟩ := hrel
    cases gk with
    | zero => exact absurd HA.out (by simp [feature_square.l0])
    | succ k1 =>
     have H := HA.out
     clear HA
     simp only [feature_square.l0] at H
     by_cases c7 : x15_1 < (l0.length : Int)
     ·rw [if_pos c7] at H
      have c7b0 := decide_eq_true c7
      clear c7
      by_cases c8 : 0 ≤ x15_1
      ·rw [if_pos c8] at H
       have c8b0 := decide_eq_true c8
       clear c8
       by_cases c9 : x15_1 < (l0.length : Int)
       ·rw [if_pos c9] at H
        have c9b0 := decide_eq_true c9
        clear c9
        have H' := Aside0.mk H
        clear H
        have p104 : 0 ≤ (x15_1 : Int) := of_decide_eq_true tA
        have q104 : x15_1 < (l0.length : Int) := of_decide_eq_true tA
        obtain ⟨ad104, e104, hx104_0⟩ := Kd.at_int HR0.out x15_1 p104 q104
        cases e104
        replace hx104_0 := (HB.out.cell (World.block_lt_of_cell? w _ hx104_0)).trans hx104_0
        replace p104 := eq_true p104
        replace q104 := eq_true q104
        go_wp2
        go_loopg [6, 22] k1 (fun kq v6 v22 w' => ∃ (x3_2 : List Int) (x6_2 : Int) (x22_2 : Int), v6 = .int .u64 x6_2 ∧ v22 = .int .i64 x22_2 ∧ Aside0 (feature_square.l1 kq l0 x3_2 x15_1 (rd l0 x15_1) x6_2 l0 (l0.length : Int) x15_1 l0 (l0.length : Int) x22_2 = some r) ∧ Aside0 (kq ≤ k1) ∧ Aside0 (Kd.R (Kd.int .u32) 118 w' w.heap.size (fun _ => True) v102 x3_2) ∧ Aside0 (Below w.heap.size w w'))
        case atStart => exact ⟨(x3_1), (0), (0), (by first | rfl | (simp; done) | (simp only [i64_w]; done) | (simp [*]; done)), (by first | rfl | (simp; done) | (simp only [i64_w]; done) | (simp [*]; done)), H', ⟨Nat.le_refl _⟩, ⟨tR HO_3.out⟩, ⟨tB⟩⟩
        case round =>
         clear H'
         try clear c1
         try clear p1
         try clear q1
         try clear hx1
         try clear p2
         try clear c3
         try clear c3b0
         try clear c3b1
         try clear c4
         try clear c4b0
         try clear c4b1
         try clear p6
         try clear c7
         try clear c7b0
         try clear c8
         try clear c8b0
         try clear c9
         try clear c9b0
         try clear hx104_0
         try clear p104
         try clear p2
         try clear p6
         try clear q104
         obtain ⟨x3_2, x6_2, x22_2, rfl, rfl, HA, HK2, HO_3, HB⟩ := hrel
         cases gk with
         | zero => exact absurd HA.out (by simp [feature_square.l1])
         | succ k2 =>
          have H := HA.out
          clear HA
          simp only [feature_square.l1] at H
          by_cases c10 : x22_2 < (l0.length : Int)
          ·rw [if_pos c10] at H
           have c10b0 := decide_eq_true c10
           clear c10
           by_cases c11 : 0 ≤ x22_2
           ·rw [if_pos c11] at H
            have c11b0 := decide_eq_true c11
            clear c11
            by_cases c12 : x22_2 < (l0.length : Int)
            ·rw [if_pos c12] at H
             have c12b0 := decide_eq_true c12
             clear c12
             obtain ⟨ji13, hji13⟩ : ∃ j_ : Int, (wrap64 (x15_1 + x22_2)) = j_ := ⟨_, rfl⟩
             first | rw [hji13] at H | simp only [hji13] at H
             have hji13w : (IntKind.i64.wrap (x15_1 + x22_2)) = ji13 := (i64_w _).trans hji13
             by_cases c14 : 0 ≤ (ji13)
             ·rw [if_pos c14] at H
              have c14b0 := decide_eq_true c14
              clear c14
              by_cases c15 : (ji13) < (x3_2.length : Int)
              ·rw [if_pos c15] at H
               have c15b0 := decide_eq_true c15
               clear c15
               obtain ⟨y107, hy107⟩ : ∃ y_ : List Int, y_ = (x3_2.set ((ji13) : Int).toNat ((IntKind.u64.wrap (x6_2 + (IntKind.u64.wrap ((IntKind.u64.wrap (rd x3_2 (ji13))) + (IntKind.u64.wrap ((IntKind.u64.wrap ((rd l0 x15_1))) * (IntKind.u64.wrap (rd l0 x22_2)))))))) % 4294967296)) := ⟨_, rfl⟩
               replace H : (feature_square.l1 k2 l0 y107 x15_1 (rd l0 x15_1) ((IntKind.u64.wrap (x6_2 + (IntKind.u64.wrap ((IntKind.u64.wrap (rd x3_2 (ji13))) + (IntKind.u64.wrap ((IntKind.u64.wrap ((rd l0 x15_1))) * (IntKind.u64.wrap (rd l0 x22_2)))))))) / 4294967296) l0 (l0.length : Int) x15_1 l0 (l0.length : Int) (wrap64 (x22_2 + 1))) = some r := by first | (rw [hy107]; with_reducible exact H) | (have H2_ := (Option.bind_some _ _).symm.trans H; rw [hy107]; with_reducible exact H2_) | (have H2_ := (Option.bind_some _ _).symm.trans H; with_reducible exact H2_) | with_reducible exact H | (rw [hy107]; exact H) | exact H
               have Ny107 := Aside0.mk hy107
               clear hy107
               have H' := Aside0.mk H
               clear H
               have p105 : 0 ≤ (x22_2 : Int) := of_decide_eq_true tA
               have q105 : x22_2 < (l0.length : Int) := of_decide_eq_true tA
               obtain ⟨ad105, e105, hx105_0⟩ := Kd.at_int HR0.out x22_2 p105 q105
               obtain rfl : ad104 = ad105 := (by injection e105)
               replace hx105_0 := (HB.out.cell (World.block_lt_of_cell? w _ hx105_0)).trans hx105_0
               replace p105 := eq_true p105
               replace q105 := eq_true q105
               obtain ⟨Ao17, co17, eo17⟩ := Kd.R_slice HO_3.out
               subst eo17
               have p106 : 0 ≤ ((ji13) : Int) := of_decide_eq_true tA
               have q106 : (ji13) < (x3_2.length : Int) := of_decide_eq_true tA
               obtain ⟨ad106, e106, hx106_0⟩ := Kd.at_int (Kd.R_reads' HO_3.out).2.2 (ji13) p106 q106
               cases e106
               replace p106 := eq_true p106
               replace q106 := eq_true q106
               have p16 : 0 ≤ ((ji13) : Int) := of_decide_eq_true tA
               have q16 : ((ji13) : Int) < ((x3_2.length : Int) : Int) := of_decide_eq_true tA
               obtain ⟨go16, co16, eo16, gb16, gl16, cl16, HG16⟩ := Kd.R_form HO_3.out (by omega)
               (first | cases eo16 | (injection eo16 with ea_ en_ ec_; (first | subst ea_ | (injection ea_ with ea_; subst ea_)); subst ec_; clear en_))
               have GB16 := Aside0.mk gb16
               have GG16 := Aside0.mk HG16
               clear gb16 gl16 HG16
               (first | simp only [add_plain] at hx106_0 | skip)
               obtain ⟨hx16_0, hf16_0⟩ := Kd.R_celln 0 HO_3.out ((ji13) : Int) p16 q16
               replace p16 := eq_true p16
               replace q16 := eq_true q16
               have HP18 := Kd.R_putg HO_3.out ((ji13) : Int) ((IntKind.u64.wrap (x6_2 + (IntKind.u64.wrap ((IntKind.u64.wrap (rd x3_2 (ji13))) + (IntKind.u64.wrap ((IntKind.u64.wrap ((rd l0 x15_1))) * (IntKind.u64.wrap (rd l0 x22_2)))))))) % 4294967296)
               go_wp2_with (first | ((with_reducible refine gate_store (t := 118) (p := 48) rfl ?_); refine store_event (t := 118) (p := 48) (v := ?vo_w19) (w1 := (wr.setCell ⟨go16, ((ji13) : Int).toNat, none⟩ (.int .u32 ((IntKind.u64.wrap (x6_2 + (IntKind.u64.wrap ((IntKind.u64.wrap (rd x3_2 (ji13))) + (IntKind.u64.wrap ((IntKind.u64.wrap ((rd l0 x15_1))) * (IntKind.u64.wrap (rd l0 x22_2)))))))) % 4294967296)))) ?hg ?ho ?hn ?hr ?_; (case ho => rfl); (case hg => rfl); (case hn => rfl); (case hr => first | (go_simp; done) | (go_simp; rfl)); intro w19 hw; have hg : wr.grownBy w19 (some go16) := (by rw [hw]; exact HP18.2); have hp_ : Kd.R (Kd.int .u32) 118 w19 w.heap.size (fun _ => True) (.slice (some ⟨go16, 0, none⟩) x3_2.length co17) y107 := (by rw [hw, Ny107.out]; exact HP18.1); clear HP18; replace HO_3 := Aside0.mk (hp_); replace HB := Aside0.mk ((by rw [hw]; exact below_set (HB.out) GB16.out : Below w.heap.size w w19)); clear hg hw hp_))
               go_roundg k2
               case measure => have := HK1.out; have := HK2.out; omega
               case rel => exact ⟨(y107), ((IntKind.u64.wrap (x6_2 + (IntKind.u64.wrap ((IntKind.u64.wrap (rd x3_2 (ji13))) + (IntKind.u64.wrap ((IntKind.u64.wrap ((rd l0 x15_1))) * (IntKind.u64.wrap (rd l0 x22_2)))))))) / 4294967296), (wrap64 (x22_2 + 1)), (by first | rfl | (simp; done) | (simp only [← hji13] <;> (first | rfl | simp)) | (simp [*]; done)), (by first | rfl | (simp; done) | (simp only [i64_w]; done) | (simp [*]; done)), H', ⟨by have := HK1.out; have := HK2.out; omega⟩, ⟨tR HO_3.out⟩, ⟨tB⟩⟩
              ·rw [if_neg c15] at H
               exact absurd H (by simp)
             ·rw [if_neg c14] at H
              exact absurd H (by simp)
            ·rw [if_neg c12] at H
             exact absurd H (by simp)
           ·rw [if_neg c11] at H
            exact absurd H (by simp)
          ·rw [if_neg c10] at H
           have c10b0 := decide_eq_false c10
           clear c10
           obtain ⟨ji20, hji20⟩ : ∃ j_ : Int, (wrap64 (x15_1 + (l0.length : Int))) = j_ := ⟨_, rfl⟩
           first | rw [hji20] at H | simp only [hji20] at H
           have hji20w : (IntKind.i64.wrap (x15_1 + (l0.length : Int))) = ji20 := (i64_w _).trans hji20
           by_cases c21 : 0 ≤ (ji20)
           ·rw [if_pos c21] at H
            have c21b0 := decide_eq_true c21
            clear c21
            by_cases c22 : (ji20) < (x3_2.length : Int)
            ·rw [if_pos c22] at H
             have c22b0 := decide_eq_true c22
             clear c22
             obtain ⟨y108, hy108⟩ : ∃ y_ : List Int, y_ = (x3_2.set ((ji20) : Int).toNat ((x6_2) % 4294967296)) := ⟨_, rfl⟩
             replace H : (feature_square.l0 k2 l0 y108 l0 (l0.length : Int) (wrap64 (x15_1 + 1))) = some r := by first | (rw [hy108]; with_reducible exact H) | (have H2_ := (Option.bind_some _ _).symm.trans H; rw [hy108]; with_reducible exact H2_) | (have H2_ := (Option.bind_some _ _).symm.trans H; with_reducible exact H2_) | with_reducible exact H | (rw [hy108]; exact H) | exact H
             have Ny108 := Aside0.mk hy108
             clear hy108
             have H' := Aside0.mk H
             clear H
             have p23 : 0 ≤ ((ji20) : Int) := of_decide_eq_true tA
             have q23 : ((ji20) : Int) < ((x3_2.length : Int) : Int) := of_decide_eq_true tA
             obtain ⟨go23, co23, eo23, gb23, gl23, cl23, HG23⟩ := Kd.R_form HO_3.out (by omega)
             (first | cases eo23 | (injection eo23 with ea_ en_ ec_; (first | subst ea_ | (injection ea_ with ea_; subst ea_)); subst ec_; clear en_))
             have GB23 := Aside0.mk gb23
             have GG23 := Aside0.mk HG23
             clear gb23 gl23 HG23
             obtain ⟨hx23_0, hf23_0⟩ := Kd.R_celln 0 HO_3.out ((ji20) : Int) p23 q23
             replace p23 := eq_true p23
             replace q23 := eq_true q23
             have HP24 := Kd.R_putg HO_3.out ((ji20) : Int) ((x6_2) % 4294967296)
             go_wp2_with (first | ((with_reducible refine gate_store (t := 118) (p := 59) rfl ?_); refine store_event (t := 118) (p := 59) (v := ?vo_w25) (w1 := (wr.setCell ⟨go23, ((ji20) : Int).toNat, none⟩ (.int .u32 ((x6_2) % 4294967296)))) ?hg ?ho ?hn ?hr ?_; (case ho => rfl); (case hg => rfl); (case hn => rfl); (case hr => first | (go_simp; done) | (go_simp; rfl)); intro w25 hw; have hg : wr.grownBy w25 (some go23) := (by rw [hw]; exact HP24.2); have hp_ : Kd.R (Kd.int .u32) 118 w25 w.heap.size (fun _ => True) (.slice (some ⟨go23, 0, none⟩) x3_2.length co23) y108 := (by rw [hw, Ny108.out]; exact HP24.1); clear HP24; replace HO_3 := Aside0.mk (hp_); replace HB := Aside0.mk ((by rw [hw]; exact below_set (HB.out) GB23.out : Below w.heap.size w w25)); clear hg hw hp_))
             go_roundg k2
             case measure => have := HK1.out; have := HK2.out; omega
             case rel => exact ⟨(y108), (wrap64 (x15_1 + 1)), (by first | rfl | (simp; done) | (simp only [i64_w]; done) | (simp [*]; done)), H', ⟨by have := HK1.out; have := HK2.out; omega⟩, ⟨tR HO_3.out⟩, ⟨tB⟩⟩
            ·rw [if_neg c22] at H
             exact absurd H (by simp)
           ·rw [if_neg c21] at H
            exact absurd H (by simp)
       ·rw [if_neg c9] at H
        exact absurd H (by simp)
      ·rw [if_neg c8] at H
       exact absurd H (by simp)
     ·rw [if_neg c7] at H
      have c7b0 := decide_eq_false c7
      clear c7
      obtain rfl := Option.some.inj H
      go_wp2
      go_ret
      exact ⟨_, by first | rfl | (simp [errW_none, errW_some] <;> rfl) | (simp only [← hji2]; first | rfl | (simp [errW_none, errW_some] <;> rfl)) | (simp [*, errW_none, errW_some] <;> rfl), tR HO_3.out, tB⟩
  ·rw [if_neg c4] at H
   exact absurd H (by simp)
 ·rw [if_neg c3] at H
  exact absurd H (by simp)

end Go.Proofs.YtdlbmbijobcljaaDoor.X

-- By a program of this session's own (wip/print), after the kit's print.
namespace Go.Proofs.YtdlbmbijobcljaaDoor.X
open Go.RowKit Go.Proofs.YtdlbmbijobcljaaDoorW.PrintWords Go.Proofs.YtdlbmbijobcljaaDoorW.PrintLast Go.Proofs.YtdlbmbijobcljaaDoorW.PrintMore
attribute [local go_sem] max2_int min2_int max_two min_two max_three min_three max_four min_four   -- for this text's walks alone
set_option linter.unusedVariables false
set_option linter.unusedSimpArgs false

/-! ### feature_logarithm: function 85 -/
mutual
def feature_logarithm.l0 : Nat → List Int → Int → Option (Int)
 | 0, _, _ => none
 | k + 1, x3, x13 => if x13 < 4 then ((feature_square.f k x3).bind fun t104 => (feature_logarithm.l0 k t104 (wrap64 (x13 + 1)))) else (feature_logarithm.l1 k x3 (wrap64 ((x3.length : Int) - 1)))
def feature_logarithm.l1 : Nat → List Int → Int → Option (Int)
 | 0, _, _ => none
 | k + 1, x3, x4 => if 0 ≤ x4 then (if x4 < (x3.length : Int) then (if (rd x3 x4) = 0 then (feature_logarithm.l1 k x3 (wrap64 (x4 - 1))) else ((bits_Len32.f (rd x3 x4)).bind fun t109 => (some (wrap64 ((wrap64 ((wrap64 (32 * x4)) + t109)) - 1))))) else (none)) else (none)
end
def feature_logarithm.f (k : Nat) (a0 : Int) : Option (Int) := if a0 = 0 then (some (-16)) else (feature_logarithm.l0 k (([(a0) % 4294967296, (a0 / 4294967296) % 4294967296] : List Int)) 0)
theorem feature_logarithm.mono_l : ∀ k, (∀ y0 y1, LeO (feature_logarithm.l0 k y0 y1) (feature_logarithm.l0 (k + 1) y0 y1)) ∧ (∀ y0 y1, LeO (feature_logarithm.l1 k y0 y1) (feature_logarithm.l1 (k + 1) y0 y1))
 | 0 => ⟨fun _ _ r h => by simp [feature_logarithm.l0] at h, fun _ _ r h => by simp [feature_logarithm.l1] at h⟩
 | k + 1 => by
  obtain ⟨ih0, ih1⟩ := feature_logarithm.mono_l k
  refine ⟨?_, ?_⟩
  ·intro y0 y1
   unfold feature_logarithm.l0
   repeat' first
   | (with_reducible exact ih0 _ _)
   | (with_reducible exact ih1 _ _)
   | (with_reducible exact feature_square.mono _ _)
   | (with_reducible exact LeO.refl _)
   | (with_reducible exact LeO.none _)
   | (with_reducible refine LeO.ite ?_ ?_)
   | (with_reducible refine LeO.bind ?_ (fun _ => ?_))
   | exact ih0 _ _
   | exact ih1 _ _
   | exact feature_square.mono _ _
   | exact LeO.none _
   | refine LeO.ite ?_ ?_
   | refine LeO.bind ?_ (fun _ => ?_)
  ·intro y0 y1
   unfold feature_logarithm.l1
   repeat' first
   | (with_reducible exact ih0 _ _)
   | (with_reducible exact ih1 _ _)
   | (with_reducible exact feature_square.mono _ _)
   | (with_reducible exact LeO.refl _)
   | (with_reducible exact LeO.none _)
   | (with_reducible refine LeO.ite ?_ ?_)
   | (with_reducible refine LeO.bind ?_ (fun _ => ?_))
   | exact ih0 _ _
   | exact ih1 _ _
   | exact feature_square.mono _ _
   | exact LeO.none _
   | refine LeO.ite ?_ ?_
   | refine LeO.bind ?_ (fun _ => ?_)
theorem feature_logarithm.mono : ∀ a0 k, LeO (feature_logarithm.f k a0) (feature_logarithm.f (k + 1) a0) := by
 intro a0 k
 obtain ⟨ih0, ih1⟩ := feature_logarithm.mono_l k
 unfold feature_logarithm.f
 repeat' first
   | (with_reducible exact ih0 _ _)
   | (with_reducible exact ih1 _ _)
   | (with_reducible exact feature_square.mono _ _)
   | (with_reducible exact LeO.refl _)
   | (with_reducible exact LeO.none _)
   | (with_reducible refine LeO.ite ?_ ?_)
   | (with_reducible refine LeO.bind ?_ (fun _ => ?_))
   | exact ih0 _ _
   | exact ih1 _ _
   | exact feature_square.mono _ _
   | exact LeO.none _
   | refine LeO.ite ?_ ?_
   | refine LeO.bind ?_ (fun _ => ?_)
set_option maxHeartbeats 8000000 in
set_option maxRecDepth 100000 in
theorem feature_logarithm.calls (k : Nat) (a0 : Int) (r : Int) (w : World) (h : feature_logarithm.f k a0 = some r) :
  Calls Tryd.prog 85 #[.int .i64 a0] w fun e w' => e = .returned (.int .i64 r) ∧ Below w.heap.size w w' := by
 have HB := Aside0.mk (Below.refl w.heap.size w)
 have H : (if a0 = 0 then (some (-16)) else (feature_logarithm.l0 k (([(a0) % 4294967296, (a0 / 4294967296) % 4294967296] : List Int)) 0)) = some r := h
 clear h
 by_cases c2 : a0 = 0
 ·rw [if_pos c2] at H
  have c2b0 : (a0 == 0) = true := beq_iff_eq.mpr c2
  have c2b1 : (a0 != 0) = false := bne_eq_false_iff_eq.mpr c2
  clear c2
  obtain rfl := Option.some.inj H
  go_enter Tryd.func85, Tryd.ntmps85
  go_wp2
  go_ret
  exact ⟨by first | rfl | (simp [errW_none, errW_some] <;> rfl) | (simp [*, errW_none, errW_some] <;> rfl), tB⟩
 ·rw [if_neg c2] at H
  have c2b0 : (a0 == 0) = false := beq_eq_false_iff_ne.mpr c2
  have c2b1 : (a0 != 0) = true := bne_iff_ne.mpr c2
  obtain ⟨y101, hy101⟩ : ∃ y_ : List Int, y_ = (([(a0) % 4294967296, (a0 / 4294967296) % 4294967296] : List Int)) := ⟨_, rfl⟩
  replace H : (feature_logarithm.l0 k y101 0) = some r := by first | (rw [hy101]; with_reducible exact H) | (have H2_ := (Option.bind_some _ _).symm.trans H; rw [hy101]; with_reducible exact H2_) | (have H2_ := (Option.bind_some _ _).symm.trans H; with_reducible exact H2_) | with_reducible exact H | (rw [hy101]; exact H) | exact H
  have Ny101 := Aside0.mk hy101
  clear hy101
  have H' := Aside0.mk H
  clear H
  go_enter Tryd.func85, Tryd.ntmps85
  go_wp2_with (first | ((with_reducible refine gate_dst (N := 12) rfl ?_); refine Kd.R_lit (Kd.int .u32) _ 118 ?hg (N := 12) ?hd (xs := ([(a0) % 4294967296, (a0 / 4294967296) % 4294967296] : List Int)) (inner := [.int .u32 ((a0) % 4294967296), .int .u32 ((a0 / 4294967296) % 4294967296)]) (ok := fun _ => True) (okp := fun _ => True) ?hr ?hp (fun _ hk => hk) trivial (Below.refl _ _) (Nat.le_refl _) (by simp) ?_; (case hd => rfl); (case hg => rfl); (case hr => first | (go_simp; done) | (go_simp; rfl)); (case hp => exact (Reps.one (show Kd.M (Kd.int .u32) _ _ _ ((a0) % 4294967296) [.int .u32 ((a0) % 4294967296)] from rfl) (Reps.one (show Kd.M (Kd.int .u32) _ _ _ ((a0 / 4294967296) % 4294967296) [.int .u32 ((a0 / 4294967296) % 4294967296)] from rfl) (Reps.none _ _)))); intro v102 w3 ho4 hb hg_ hnew_; clear hg_ hnew_; (first | rw [← Ny101.out] at ho4 | (simp only [Int.reduceToNat] at ho4; rw [← Ny101.out] at ho4)); have HO103 := Aside0.mk (Kd.R_lower ho4 (below_size tB)); replace HB := Aside0.mk (below_step tB hb); clear hb ho4))
  go_loopg [3, 13] k (fun kq v3 v13 w' => ∃ (x3_1 : List Int) (x13_1 : Int), v13 = .int .i64 x13_1 ∧ Aside0 (feature_logarithm.l0 kq x3_1 x13_1 = some r) ∧ Aside0 (kq ≤ k) ∧ Aside0 (Kd.R (Kd.int .u32) 118 w' w.heap.size (fun _ => True) v3 x3_1) ∧ Aside0 (Below w.heap.size w w'))
  case atStart => exact ⟨(y101), (0), (by first | rfl | (simp; done) | (simp only [i64_w]; done) | (simp [*]; done)), H', ⟨Nat.le_refl _⟩, ⟨tR HO103.out⟩, ⟨tB⟩⟩
  case round =>
   clear H'
   try clear c2
   try clear c2b0
   try clear c2b1
   try clear p2
   obtain ⟨x3_1, x13_1, rfl, HA, HK1, HO_3, HB⟩ := hrel
   cases gk with
   | zero => exact absurd HA.out (by simp [feature_logarithm.l0])
   | succ k1 =>
    have H := HA.out
    clear HA
    simp only [feature_logarithm.l0] at H
    by_cases c5 : x13_1 < 4
    ·rw [if_pos c5] at H
     have c5b0 := decide_eq_true c5
     clear c5
     replace H := Option.bind_eq_some_iff.mp H
     obtain ⟨t104, A60, H⟩ := H
     try dsimp only at H
     have A6 := Aside0.mk A60
     clear A60
     have H' := Aside0.mk H
     clear H
     obtain ⟨Ao7, co7, eo7⟩ := Kd.R_slice HO_3.out
     subst eo7
     go_wp2_with (first | ((with_reducible refine gate_callee (f := 127) rfl ?_); refine goesL_ (some 16) rfl rfl Tryd.func127 (by kernel_rfl) rfl #[.slice Ao7 x3_1.length co7] rfl tL ?_; (with_reducible refine (feature_square.calls k1 _ _ x3_1 t104 _ ?side1 ?side2 A6.out).mono ?_); (case side1 => exact tC (Kd.R_reads' HO_3.out).2.2); (case side2 => exact (Kd.R_reads' HO_3.out).2.1); rintro e w8 ⟨v105, rfl, ho0, hb⟩; refine ⟨_, rfl, ?_⟩; have HO106 := Aside0.mk (Kd.R_lower (Kd.R_new' ho0 (Kd.R_lt (tR HO_3.out))) (below_size tB)); replace HO_3 := Aside0.mk (Kd.R_elder' (tR HO_3.out) (Kd.R_base ho0) hb); replace HB := Aside0.mk (below_step tB hb); (try clear hb); (try clear hb2); (try clear hk); (try clear hi); (try clear ho0)))
     go_roundg k1
     case measure => have := HK1.out; omega
     case rel => exact ⟨(t104), (wrap64 (x13_1 + 1)), (by first | rfl | (simp; done) | (simp only [i64_w]; done) | (simp [*]; done)), H', ⟨by have := HK1.out; omega⟩, ⟨by (with_reducible repeat (first | apply Kd.R_alloc | apply Kd.R_drewN | apply Kd.R_drew)); exact Kd.R_mono HO106.out (fun _ hk => trivial)⟩, ⟨tB⟩⟩
    ·rw [if_neg c5] at H
     have c5b0 := decide_eq_false c5
     clear c5
     have H' := Aside0.mk H
     clear H
     obtain ⟨Ao9, co9, eo9⟩ := Kd.R_slice HO_3.out
     subst eo9
     go_wp2
     go_loopg [4] k1 (fun kq v4 w' => ∃ (x4_2 : Int), v4 = .int .i64 x4_2 ∧ Aside0 (feature_logarithm.l1 kq x3_1 x4_2 = some r) ∧ Aside0 (kq ≤ k1) ∧ Aside0 (Kd.R (Kd.int .u32) 118 w' w.heap.size (fun _ => True) (.slice Ao9 x3_1.length co9) x3_1) ∧ Aside0 (Below w.heap.size w w'))
     case atStart => exact ⟨(wrap64 ((x3_1.length : Int) - 1)), (by first | rfl | (simp; done) | (simp only [i64_w]; done) | (simp [*]; done)), H', ⟨Nat.le_refl _⟩, ⟨tR HO_3.out⟩, ⟨tB⟩⟩
     case round =>
      clear H'
      try clear c1
      try clear c2
      try clear c2b0
      try clear c2b1
      try clear p2
      try clear c5
      try clear c5b0
      try clear p6
      try clear c8
      try clear p2
      obtain ⟨x4_2, rfl, HA, HK2, HO_3, HB⟩ := hrel
      cases gk with
      | zero => exact absurd HA.out (by simp [feature_logarithm.l1])
      | succ k2 =>
       have H := HA.out
       clear HA
       simp only [feature_logarithm.l1] at H
       by_cases c10 : 0 ≤ x4_2
       ·rw [if_pos c10] at H
        have c10b0 := decide_eq_true c10
        clear c10
        by_cases c11 : x4_2 < (x3_1.length : Int)
        ·rw [if_pos c11] at H
         have c11b0 := decide_eq_true c11
         clear c11
         by_cases c12 : (rd x3_1 x4_2) = 0
         ·rw [if_pos c12] at H
          have c12b0 : ((rd x3_1 x4_2) == 0) = true := beq_iff_eq.mpr c12
          have c12b1 : ((rd x3_1 x4_2) != 0) = false := bne_eq_false_iff_eq.mpr c12
          clear c12
          have H' := Aside0.mk H
          clear H
          have p107 : 0 ≤ (x4_2 : Int) := of_decide_eq_true tA
          have q107 : x4_2 < (x3_1.length : Int) := of_decide_eq_true tA
          obtain ⟨ad107, e107, hx107_0⟩ := Kd.at_int (Kd.R_reads' HO_3.out).2.2 x4_2 p107 q107
          cases e107
          replace p107 := eq_true p107
          replace q107 := eq_true q107
          go_wp2
          go_roundg k2
          case measure => have := HK1.out; have := HK2.out; omega
          case rel => exact ⟨(wrap64 (x4_2 - 1)), (by first | rfl | (simp; done) | (simp only [i64_w]; done) | (simp [*]; done)), H', ⟨by have := HK1.out; have := HK2.out; omega⟩, ⟨tR HO_3.out⟩, ⟨tB⟩⟩
         ·rw [if_neg c12] at H
          have c12b0 : ((rd x3_1 x4_2) == 0) = false := beq_eq_false_iff_ne.mpr c12
          have c12b1 : ((rd x3_1 x4_2) != 0) = true := bne_iff_ne.mpr c12
          replace H := Option.bind_eq_some_iff.mp H
          obtain ⟨t109, A130, H⟩ := H
          try dsimp only at H
          have A13 := Aside0.mk A130
          clear A130
          obtain rfl := Option.some.inj H
          have p107 : 0 ≤ (x4_2 : Int) := of_decide_eq_true tA
          have q107 : x4_2 < (x3_1.length : Int) := of_decide_eq_true tA
          obtain ⟨ad107, e107, hx107_0⟩ := Kd.at_int (Kd.R_reads' HO_3.out).2.2 x4_2 p107 q107
          cases e107
          replace p107 := eq_true p107
          replace q107 := eq_true q107
          have p108 : 0 ≤ (x4_2 : Int) := of_decide_eq_true tA
          have q108 : x4_2 < (x3_1.length : Int) := of_decide_eq_true tA
          obtain ⟨ad108, e108, hx108_0⟩ := Kd.at_int (Kd.R_reads' HO_3.out).2.2 x4_2 p108 q108
          obtain rfl : ad107 = ad108 := (by injection e108)
          replace p108 := eq_true p108
          replace q108 := eq_true q108
          go_wp2_with (first | ((with_reducible refine gate_callee (f := 128) rfl ?_); refine goesL_ (some 34) rfl rfl Tryd.func128 (by kernel_rfl) rfl #[.int .u32 (rd x3_1 x4_2)] rfl tL ?_; (with_reducible refine (bits_Len32.calls (rd x3_1 x4_2) t109 _ A13.out).mono ?_); rintro e w' ⟨rfl, ⟨nd, rfl⟩⟩; refine ⟨_, rfl, ?_⟩))
          go_ret
          exact ⟨by first | rfl | (simp [errW_none, errW_some] <;> rfl) | (simp [*, errW_none, errW_some] <;> rfl), tB⟩
        ·rw [if_neg c11] at H
         exact absurd H (by simp)
       ·rw [if_neg c10] at H
        exact absurd H (by simp)

end Go.Proofs.YtdlbmbijobcljaaDoor.X

-- By a program of this session's own (wip/print), after the kit's print.
namespace Go.Proofs.YtdlbmbijobcljaaDoor.X
open Go.RowKit Go.Proofs.YtdlbmbijobcljaaDoorW.PrintWords Go.Proofs.YtdlbmbijobcljaaDoorW.PrintLast Go.Proofs.YtdlbmbijobcljaaDoorW.PrintMore
attribute [local go_sem] max2_int min2_int max_two min_two max_three min_three max_four min_four   -- for this text's walks alone
set_option linter.unusedVariables false
set_option linter.unusedSimpArgs false

/-! ### feature_Log: function 30 -/
def feature_Log.f (k : Nat) (a0 : Int) : Option (Int × Int) := if a0 < 0 then (some (0, 2)) else ((feature_logarithm.f k a0).bind fun t101 => (some (t101, 0)))
theorem feature_Log.mono : ∀ a0 k, LeO (feature_Log.f k a0) (feature_Log.f (k + 1) a0) := by
 intro a0 k
 unfold feature_Log.f
 repeat' first
   | (with_reducible exact feature_logarithm.mono _ _)
   | (with_reducible exact LeO.refl _)
   | (with_reducible exact LeO.none _)
   | (with_reducible refine LeO.ite ?_ ?_)
   | (with_reducible refine LeO.bind ?_ (fun _ => ?_))
   | exact feature_logarithm.mono _ _
   | exact LeO.none _
   | refine LeO.ite ?_ ?_
   | refine LeO.bind ?_ (fun _ => ?_)
set_option maxHeartbeats 8000000 in
set_option maxRecDepth 100000 in
theorem feature_Log.calls (k : Nat) (a0 : Int) (r1 : Int) (r2 : Int) (w : World) (h : feature_Log.f k a0 = some (r1, r2)) :
  Calls Tryd.prog 30 #[.int .i64 a0] w fun e w' => e = .returned (.tuple #[.int .i64 r1, .int .i64 r2]) ∧ Below w.heap.size w w' := by
 have HB := Aside0.mk (Below.refl w.heap.size w)
 have H : (if a0 < 0 then (some (0, 2)) else ((feature_logarithm.f k a0).bind fun t101 => (some (t101, 0)))) = some (r1, r2) := h
 clear h
 by_cases c2 : a0 < 0
 ·rw [if_pos c2] at H
  have c2b0 := decide_eq_true c2
  clear c2
  simp only [Option.some.injEq, Prod.mk.injEq] at H
  obtain ⟨rfl, rfl⟩ := H
  go_enter Tryd.func30, Tryd.ntmps30
  go_wp2
  go_ret2
  exact ⟨by first | rfl | (simp [errW_none, errW_some] <;> rfl) | (simp [*, errW_none, errW_some] <;> rfl), tB⟩
 ·rw [if_neg c2] at H
  have c2b0 := decide_eq_false c2
  clear c2
  replace H := Option.bind_eq_some_iff.mp H
  obtain ⟨t101, A30, H⟩ := H
  try dsimp only at H
  have A3 := Aside0.mk A30
  clear A30
  simp only [Option.some.injEq, Prod.mk.injEq] at H
  obtain ⟨rfl, rfl⟩ := H
  go_enter Tryd.func30, Tryd.ntmps30
  go_wp2_with (first | ((with_reducible refine gate_callee (f := 85) rfl ?_); refine goesL_ (some 7) rfl rfl Tryd.func85 (by kernel_rfl) rfl #[.int .i64 a0] rfl tL ?_; (with_reducible refine (feature_logarithm.calls k a0 t101 _ A3.out).mono ?_); rintro e w4 ⟨rfl, hb⟩; refine ⟨_, rfl, ?_⟩; replace HB := Aside0.mk (below_step tB hb); (try clear hb); (try clear hb2); (try clear hk); (try clear hi)))
  go_ret2
  exact ⟨by first | rfl | (simp [errW_none, errW_some] <;> rfl) | (simp [*, errW_none, errW_some] <;> rfl), tB⟩

end Go.Proofs.YtdlbmbijobcljaaDoor.X

namespace Go.Proofs.YtdlbmbijobcljaaDoor.X
open Go.RowKit Go.Proofs.YtdlbmbijobcljaaDoorW.PrintWords Go.Proofs.YtdlbmbijobcljaaDoorW.PrintLast Go.Proofs.YtdlbmbijobcljaaDoorW.PrintMore
set_option linter.unusedVariables false
set_option linter.unusedSimpArgs false

/-! ### feature_nearest: function 101 -/
mutual
def feature_nearest.l0 : Nat → List Int → Int → Int → List (List Int) → Int → Int → Option (Int × Int)
  | 0, _, _, _, _, _, _ => none
  | k + 1, x0, x6, x7, x12, x13, x14 => if x14 < x13 then (if 0 ≤ x14 then (if x14 < (x12.length : Int) then (feature_nearest.l1 k x0 x6 x7 x14 (rd_L2 x12 x14) 0 x12 x13 x14 ((rd_L2 x12 x14).length : Int) 0) else (none)) else (none)) else (some (x6, x7))
def feature_nearest.l1 : Nat → List Int → Int → Int → Int → List Int → Int → List (List Int) → Int → Int → Int → Int → Option (Int × Int)
  | 0, _, _, _, _, _, _, _, _, _, _, _ => none
  | k + 1, x0, x6, x7, x8, x9, x10, x12, x13, x14, x20, x21 => if x21 < x20 then (if 0 ≤ x21 then (if x21 < (x0.length : Int) then (if x21 < (x9.length : Int) then (if (wrap64 (x10 + (wrap64 ((wrap64 ((rd x0 x21) - (rd x9 x21))) * (wrap64 ((rd x0 x21) - (rd x9 x21))))))) ≥ x7 then (feature_nearest.l0 k x0 x6 x7 x12 x13 (wrap64 (x14 + 1))) else (feature_nearest.l1 k x0 x6 x7 x8 x9 (wrap64 (x10 + (wrap64 ((wrap64 ((rd x0 x21) - (rd x9 x21))) * (wrap64 ((rd x0 x21) - (rd x9 x21))))))) x12 x13 x14 x20 (wrap64 (x21 + 1)))) else (none)) else (none)) else (none)) else (feature_nearest.l0 k x0 x8 x10 x12 x13 (wrap64 (x14 + 1)))
end
def feature_nearest.f (k : Nat) (l0 : List Int) (l1 : List (List Int)) : Option (Int × Int) := feature_nearest.l0 k l0 (-1) 4611686018427387904 l1 (l1.length : Int) 0
theorem feature_nearest.mono_l : ∀ k, (∀ y0 y1 y2 y3 y4 y5, LeO (feature_nearest.l0 k y0 y1 y2 y3 y4 y5) (feature_nearest.l0 (k + 1) y0 y1 y2 y3 y4 y5)) ∧ (∀ y0 y1 y2 y3 y4 y5 y6 y7 y8 y9 y10, LeO (feature_nearest.l1 k y0 y1 y2 y3 y4 y5 y6 y7 y8 y9 y10) (feature_nearest.l1 (k + 1) y0 y1 y2 y3 y4 y5 y6 y7 y8 y9 y10))
  | 0 => ⟨fun _ _ _ _ _ _ r h => by simp [feature_nearest.l0] at h, fun _ _ _ _ _ _ _ _ _ _ _ r h => by simp [feature_nearest.l1] at h⟩
  | k + 1 => by
    obtain ⟨ih0, ih1⟩ := feature_nearest.mono_l k
    refine ⟨?_, ?_⟩
    · intro y0 y1 y2 y3 y4 y5
      unfold feature_nearest.l0
      repeat' first
      | (with_reducible exact ih0 _ _ _ _ _ _)
      | (with_reducible exact ih1 _ _ _ _ _ _ _ _ _ _ _)
      | (with_reducible exact LeO.refl _)
      | (with_reducible exact LeO.none _)
      | (with_reducible refine LeO.ite ?_ ?_)
      | (with_reducible refine LeO.bind ?_ (fun _ => ?_))
      | exact ih0 _ _ _ _ _ _
      | exact ih1 _ _ _ _ _ _ _ _ _ _ _
      | exact LeO.none _
      | refine LeO.ite ?_ ?_
      | refine LeO.bind ?_ (fun _ => ?_)
    · intro y0 y1 y2 y3 y4 y5 y6 y7 y8 y9 y10
      unfold feature_nearest.l1
      repeat' first
      | (with_reducible exact ih0 _ _ _ _ _ _)
      | (with_reducible exact ih1 _ _ _ _ _ _ _ _ _ _ _)
      | (with_reducible exact LeO.refl _)
      | (with_reducible exact LeO.none _)
      | (with_reducible refine LeO.ite ?_ ?_)
      | (with_reducible refine LeO.bind ?_ (fun _ => ?_))
      | exact ih0 _ _ _ _ _ _
      | exact ih1 _ _ _ _ _ _ _ _ _ _ _
      | exact LeO.none _
      | refine LeO.ite ?_ ?_
      | refine LeO.bind ?_ (fun _ => ?_)
theorem feature_nearest.mono : ∀ a0 a1 k, LeO (feature_nearest.f k a0 a1) (feature_nearest.f (k + 1) a0 a1) := by
  intro a0 a1 k
  obtain ⟨ih0, ih1⟩ := feature_nearest.mono_l k
  unfold feature_nearest.f
  repeat' first
      | (with_reducible exact ih0 _ _ _ _ _ _)
      | (with_reducible exact ih1 _ _ _ _ _ _ _ _ _ _ _)
      | (with_reducible exact LeO.refl _)
      | (with_reducible exact LeO.none _)
      | (with_reducible refine LeO.ite ?_ ?_)
      | (with_reducible refine LeO.bind ?_ (fun _ => ?_))
      | exact ih0 _ _ _ _ _ _
      | exact ih1 _ _ _ _ _ _ _ _ _ _ _
      | exact LeO.none _
      | refine LeO.ite ?_ ?_
      | refine LeO.bind ?_ (fun _ => ?_)
set_option maxHeartbeats 8000000 in
set_option maxRecDepth 100000 in
theorem feature_nearest.calls (k : Nat) (A0 : Option Addr) (c0 : Nat) (l0 : List Int) (A1 : Option Addr) (c1 : Nat) (l1 : List (List Int)) (r1 : Int) (r2 : Int) (w : World) (hr0 : Kd.C (Kd.int .i64) w A0 l0.length l0) (hc0 : l0.length ≤ c0) (hr1 : Kd.C (Kd.slice 3 (Kd.int .i64)) w A1 l1.length l1) (hc1 : l1.length ≤ c1) (h : feature_nearest.f k l0 l1 = some (r1, r2)) :
    Calls Tryd.prog 101 #[.slice A0 l0.length c0, .slice A1 l1.length c1] w fun e w' => e = .returned (.tuple #[.int .i64 r1, .int .i64 r2]) ∧ Drawn0 w w' := by
  have HR0 := Aside0.mk hr0
  have HC0 := Aside0.mk hc0
  clear hr0 hc0
  have HR1 := Aside0.mk hr1
  have HC1 := Aside0.mk hc1
  clear hr1 hc1
  have H : (feature_nearest.l0 k l0 (-1) 4611686018427387904 l1 (l1.length : Int) 0) = some (r1, r2) := h
  clear h
  have H' := Aside0.mk H
  clear H
  go_enter Tryd.func101, Tryd.ntmps101
  go_wp2
  go_step3
  go_wp2
  go_step3
  go_wp2
  repeat (go_quiet (fail); try go_wp2)
  go_loopg [6, 7, 14] k (fun kq v6 v7 v14 w' => ∃ (x6_1 : Int) (x7_1 : Int) (x14_1 : Int), v6 = .int .i64 x6_1 ∧ v7 = .int .i64 x7_1 ∧ v14 = .int .i64 x14_1 ∧ Aside0 (feature_nearest.l0 kq l0 x6_1 x7_1 l1 (l1.length : Int) x14_1 = some (r1, r2)) ∧ Aside0 (kq ≤ k) ∧ Drawn0 w w')
  case atStart => exact ⟨((-1)), (4611686018427387904), (0), (by first | rfl | (simp; done) | (simp only [i64_w]; done) | (simp [*]; done)), (by first | rfl | (simp; done) | (simp only [i64_w]; done) | (simp [*]; done)), (by first | rfl | (simp; done) | (simp only [i64_w]; done) | (simp [*]; done)), H', ⟨Nat.le_refl _⟩, by repeat (first | exact Drawn0.refl _ | apply Drawn0.step)⟩
  case round =>
    clear H'
    try clear c1
    try clear p2
    obtain ⟨x6_1, x7_1, x14_1, rfl, rfl, rfl, HA, HK1, ⟨m1, rfl⟩⟩ := hrel
    cases gk with
    | zero => exact absurd HA.out (by simp [feature_nearest.l0])
    | succ k1 =>
      have H := HA.out
      clear HA
      simp only [feature_nearest.l0] at H
      by_cases c3 : x14_1 < (l1.length : Int)
      · rw [if_pos c3] at H
        have c3b0 : decide (x14_1 < (l1.length : Int)) = true := decide_eq_true c3
        clear c3
        by_cases c4 : 0 ≤ x14_1
        · rw [if_pos c4] at H
          have c4b0 : decide (0 ≤ x14_1) = true := decide_eq_true c4
          clear c4
          by_cases c5 : x14_1 < (l1.length : Int)
          · rw [if_pos c5] at H
            have c5b0 : decide (x14_1 < (l1.length : Int)) = true := decide_eq_true c5
            clear c5
            have H' := Aside0.mk H
            clear H
            have p101 : 0 ≤ (x14_1 : Int) := of_decide_eq_true (by first | (with_reducible assumption) | assumption)
            have q101 : x14_1 < (l1.length : Int) := of_decide_eq_true (by first | (with_reducible assumption) | assumption)
            obtain ⟨ad101, A101_0, c101_0, e101, hx101_0, hl101_0, hi101_0⟩ := at_L2 HR1.out x14_1 p101 q101
            cases e101
            have HR101_0 := Aside0.mk hi101_0
            have HC101_0 := Aside0.mk hl101_0
            clear hi101_0 hl101_0
            replace p101 := eq_true p101
            replace q101 := eq_true q101
            go_wp2
            repeat (go_quiet (fail); try go_wp2)
            go_loopg [10, 21] k1 (fun kq v10 v21 w' => ∃ (x10_2 : Int) (x21_2 : Int), v10 = .int .i64 x10_2 ∧ v21 = .int .i64 x21_2 ∧ Aside0 (feature_nearest.l1 kq l0 x6_1 x7_1 x14_1 (rd_L2 l1 x14_1) x10_2 l1 (l1.length : Int) x14_1 ((rd_L2 l1 x14_1).length : Int) x21_2 = some (r1, r2)) ∧ Aside0 (kq ≤ k1) ∧ Drawn0 w w')
            case atStart => exact ⟨(0), (0), (by first | rfl | (simp; done) | (simp only [i64_w]; done) | (simp [*]; done)), (by first | rfl | (simp; done) | (simp only [i64_w]; done) | (simp [*]; done)), H', ⟨Nat.le_refl _⟩, by repeat (first | exact Drawn0.refl _ | apply Drawn0.step)⟩
            case round =>
              clear H'
              try clear c1
              try clear p1
              try clear q1
              try clear hx1
              try clear p2
              try clear c3
              try clear c3b0
              try clear c4
              try clear c4b0
              try clear c5
              try clear c5b0
              try clear hx101_0
              try clear p101
              try clear p2
              try clear q101
              obtain ⟨x10_2, x21_2, rfl, rfl, HA, HK2, ⟨m2, rfl⟩⟩ := hrel
              cases gk with
              | zero => exact absurd HA.out (by simp [feature_nearest.l1])
              | succ k2 =>
                have H := HA.out
                clear HA
                simp only [feature_nearest.l1] at H
                by_cases c6 : x21_2 < ((rd_L2 l1 x14_1).length : Int)
                · rw [if_pos c6] at H
                  have c6b0 : decide (x21_2 < ((rd_L2 l1 x14_1).length : Int)) = true := decide_eq_true c6
                  clear c6
                  by_cases c7 : 0 ≤ x21_2
                  · rw [if_pos c7] at H
                    have c7b0 : decide (0 ≤ x21_2) = true := decide_eq_true c7
                    clear c7
                    by_cases c8 : x21_2 < (l0.length : Int)
                    · rw [if_pos c8] at H
                      have c8b0 : decide (x21_2 < (l0.length : Int)) = true := decide_eq_true c8
                      clear c8
                      by_cases c9 : x21_2 < ((rd_L2 l1 x14_1).length : Int)
                      · rw [if_pos c9] at H
                        have c9b0 : decide (x21_2 < ((rd_L2 l1 x14_1).length : Int)) = true := decide_eq_true c9
                        clear c9
                        by_cases c10 : (wrap64 (x10_2 + (wrap64 ((wrap64 ((rd l0 x21_2) - (rd (rd_L2 l1 x14_1) x21_2))) * (wrap64 ((rd l0 x21_2) - (rd (rd_L2 l1 x14_1) x21_2))))))) ≥ x7_1
                        · rw [if_pos c10] at H
                          have c10b0 : decide (x7_1 ≤ (wrap64 (x10_2 + (wrap64 ((wrap64 ((rd l0 x21_2) - (rd (rd_L2 l1 x14_1) x21_2))) * (wrap64 ((rd l0 x21_2) - (rd (rd_L2 l1 x14_1) x21_2)))))))) = true := decide_eq_true c10
                          clear c10
                          have H' := Aside0.mk H
                          clear H
                          have p102 : 0 ≤ (x21_2 : Int) := of_decide_eq_true (by first | (with_reducible assumption) | assumption)
                          have q102 : x21_2 < (l0.length : Int) := of_decide_eq_true (by first | (with_reducible assumption) | assumption)
                          obtain ⟨ad102, e102, hx102_0⟩ := Kd.at_int HR0.out x21_2 p102 q102
                          cases e102
                          replace p102 := eq_true p102
                          replace q102 := eq_true q102
                          have p103 : 0 ≤ (x21_2 : Int) := of_decide_eq_true (by first | (with_reducible assumption) | assumption)
                          have q103 : x21_2 < ((rd_L2 l1 x14_1).length : Int) := of_decide_eq_true (by first | (with_reducible assumption) | assumption)
                          obtain ⟨ad103, e103, hx103_0⟩ := Kd.at_int HR101_0.out x21_2 p103 q103
                          cases e103
                          replace p103 := eq_true p103
                          replace q103 := eq_true q103
                          have p104 : 0 ≤ (x21_2 : Int) := of_decide_eq_true (by first | (with_reducible assumption) | assumption)
                          have q104 : x21_2 < (l0.length : Int) := of_decide_eq_true (by first | (with_reducible assumption) | assumption)
                          obtain ⟨ad104, e104, hx104_0⟩ := Kd.at_int HR0.out x21_2 p104 q104
                          obtain rfl : ad102 = ad104 := (by injection e104)
                          replace p104 := eq_true p104
                          replace q104 := eq_true q104
                          have p105 : 0 ≤ (x21_2 : Int) := of_decide_eq_true (by first | (with_reducible assumption) | assumption)
                          have q105 : x21_2 < ((rd_L2 l1 x14_1).length : Int) := of_decide_eq_true (by first | (with_reducible assumption) | assumption)
                          obtain ⟨ad105, e105, hx105_0⟩ := Kd.at_int HR101_0.out x21_2 p105 q105
                          obtain rfl : ad103 = ad105 := (by injection e105)
                          replace p105 := eq_true p105
                          replace q105 := eq_true q105
                          go_wp2
                          repeat (go_quiet (fail); try go_wp2)
                          go_roundg k2
                          case measure => have := HK1.out; have := HK2.out; omega
                          case rel => exact ⟨(x6_1), (x7_1), (wrap64 (x14_1 + 1)), (by first | rfl | (simp; done) | (simp only [i64_w]; done) | (simp [*]; done)), (by first | rfl | (simp; done) | (simp only [i64_w]; done) | (simp [*]; done)), (by first | rfl | (simp; done) | (simp only [i64_w]; done) | (simp [*]; done)), H', ⟨by have := HK1.out; have := HK2.out; omega⟩, by repeat (first | exact Drawn0.refl _ | apply Drawn0.step)⟩
                        · rw [if_neg c10] at H
                          have c10b0 : decide (x7_1 ≤ (wrap64 (x10_2 + (wrap64 ((wrap64 ((rd l0 x21_2) - (rd (rd_L2 l1 x14_1) x21_2))) * (wrap64 ((rd l0 x21_2) - (rd (rd_L2 l1 x14_1) x21_2)))))))) = false := decide_eq_false c10
                          clear c10
                          have H' := Aside0.mk H
                          clear H
                          have p102 : 0 ≤ (x21_2 : Int) := of_decide_eq_true (by first | (with_reducible assumption) | assumption)
                          have q102 : x21_2 < (l0.length : Int) := of_decide_eq_true (by first | (with_reducible assumption) | assumption)
                          obtain ⟨ad102, e102, hx102_0⟩ := Kd.at_int HR0.out x21_2 p102 q102
                          cases e102
                          replace p102 := eq_true p102
                          replace q102 := eq_true q102
                          have p103 : 0 ≤ (x21_2 : Int) := of_decide_eq_true (by first | (with_reducible assumption) | assumption)
                          have q103 : x21_2 < ((rd_L2 l1 x14_1).length : Int) := of_decide_eq_true (by first | (with_reducible assumption) | assumption)
                          obtain ⟨ad103, e103, hx103_0⟩ := Kd.at_int HR101_0.out x21_2 p103 q103
                          cases e103
                          replace p103 := eq_true p103
                          replace q103 := eq_true q103
                          have p104 : 0 ≤ (x21_2 : Int) := of_decide_eq_true (by first | (with_reducible assumption) | assumption)
                          have q104 : x21_2 < (l0.length : Int) := of_decide_eq_true (by first | (with_reducible assumption) | assumption)
                          obtain ⟨ad104, e104, hx104_0⟩ := Kd.at_int HR0.out x21_2 p104 q104
                          obtain rfl : ad102 = ad104 := (by injection e104)
                          replace p104 := eq_true p104
                          replace q104 := eq_true q104
                          have p105 : 0 ≤ (x21_2 : Int) := of_decide_eq_true (by first | (with_reducible assumption) | assumption)
                          have q105 : x21_2 < ((rd_L2 l1 x14_1).length : Int) := of_decide_eq_true (by first | (with_reducible assumption) | assumption)
                          obtain ⟨ad105, e105, hx105_0⟩ := Kd.at_int HR101_0.out x21_2 p105 q105
                          obtain rfl : ad103 = ad105 := (by injection e105)
                          replace p105 := eq_true p105
                          replace q105 := eq_true q105
                          go_wp2
                          repeat (go_quiet (fail); try go_wp2)
                          go_roundg k2
                          case measure => have := HK1.out; have := HK2.out; omega
                          case rel => exact ⟨(wrap64 (x10_2 + (wrap64 ((wrap64 ((rd l0 x21_2) - (rd (rd_L2 l1 x14_1) x21_2))) * (wrap64 ((rd l0 x21_2) - (rd (rd_L2 l1 x14_1) x21_2))))))), (wrap64 (x21_2 + 1)), (by first | rfl | (simp; done) | (simp only [i64_w]; done) | (simp [*]; done)), (by first | rfl | (simp; done) | (simp only [i64_w]; done) | (simp [*]; done)), H', ⟨by have := HK1.out; have := HK2.out; omega⟩, by repeat (first | exact Drawn0.refl _ | apply Drawn0.step)⟩
                      · rw [if_neg c9] at H
                        exact absurd H (by simp)
                    · rw [if_neg c8] at H
                      exact absurd H (by simp)
                  · rw [if_neg c7] at H
                    exact absurd H (by simp)
                · rw [if_neg c6] at H
                  have c6b0 : decide (x21_2 < ((rd_L2 l1 x14_1).length : Int)) = false := decide_eq_false c6
                  clear c6
                  have H' := Aside0.mk H
                  clear H
                  go_wp2
                  repeat (go_quiet (fail); try go_wp2)
                  go_roundg k2
                  case measure => have := HK1.out; have := HK2.out; omega
                  case rel => exact ⟨(x14_1), (x10_2), (wrap64 (x14_1 + 1)), (by first | rfl | (simp; done) | (simp only [i64_w]; done) | (simp [*]; done)), (by first | rfl | (simp; done) | (simp only [i64_w]; done) | (simp [*]; done)), (by first | rfl | (simp; done) | (simp only [i64_w]; done) | (simp [*]; done)), H', ⟨by have := HK1.out; have := HK2.out; omega⟩, by repeat (first | exact Drawn0.refl _ | apply Drawn0.step)⟩
          · rw [if_neg c5] at H
            exact absurd H (by simp)
        · rw [if_neg c4] at H
          exact absurd H (by simp)
      · rw [if_neg c3] at H
        have c3b0 : decide (x14_1 < (l1.length : Int)) = false := decide_eq_false c3
        clear c3
        simp only [Option.some.injEq, Prod.mk.injEq] at H
        obtain ⟨rfl, rfl⟩ := H
        go_wp2
        repeat (go_quiet (fail); try go_wp2)
        (try rw [Exit.noGoto_ret])
        go_ret2
        exact ⟨by first | rfl | (simp; done) | (simp [*]; done), by repeat (first | exact Drawn0.refl _ | apply Drawn0.step)⟩

end Go.Proofs.YtdlbmbijobcljaaDoor.X

namespace Go.Proofs.YtdlbmbijobcljaaDoor.X
open Go.RowKit Go.Proofs.YtdlbmbijobcljaaDoorW.PrintWords Go.Proofs.YtdlbmbijobcljaaDoorW.PrintLast Go.Proofs.YtdlbmbijobcljaaDoorW.PrintMore
set_option linter.unusedVariables false
set_option linter.unusedSimpArgs false

/-- A row of one's own, stored as element i of a row whose elements lie apart. -/
theorem S_put {w w1 : World} {base : Nat} {g n cap : Nat} {xs : List (List Int)} {u : Value} {zs : List Int}
    (HS : Kd.S (Kd.slice 3 (Kd.int .i64)) 22 w base (fun _ => True) (.slice (some ⟨g, 0, none⟩) n cap) xs)
    (HU : Kd.R (Kd.int .i64) 3 w1 w.heap.size (fun _ => True) u zs) (hb : Below w.heap.size w w1) (hbase : base ≤ w.heap.size) (i : Nat) (hi : i < n) :
    (∃ x, w1.cell? ⟨g, i, none⟩ = some x) ∧ w1.frozen? ⟨g, i, none⟩ = false ∧ Kd.S (Kd.slice 3 (Kd.int .i64)) 22 (w1.setCell ⟨g, i, none⟩ u) base (fun _ => True) (.slice (some ⟨g, 0, none⟩) n cap) (xs.set i zs) ∧ w1.grownBy (w1.setCell ⟨g, i, none⟩ u) (some g) := by
  have HS' := Kd.S_elder' HS (Kd.R_base HU) hb
  have HS2 : Kd.S (Kd.slice 3 (Kd.int .i64)) 22 w1 base (fun k => True ∧ ¬ (some k = u.ownBlock)) (.slice (some ⟨g, 0, none⟩) n cap) xs := HS'
  obtain ⟨oki, c, hcl, hM, hcc, hfr, hoki, hH⟩ := Kd.S_elem HS2 [] (i : Int) (by omega) (by omega)
  have hsz : (Kd.slice 3 (Kd.int .i64)).sz = 1 := rfl
  rw [hsz] at hcl
  obtain ⟨c0, rfl⟩ : ∃ c0, c = [c0] := by
    match c, hcl with
    | [c0], _ => exact ⟨c0, rfl⟩
  have h1 := hcc 0 c0 rfl
  have h2 := hfr 0
  simp only [hsz, Int.toNat_natCast, Nat.mul_one, Nat.add_zero] at h1 h2
  have hug : ∀ k, some k = u.ownBlock → k ≠ g := by
    intro k hk he
    subst he
    have ha := Kd.R_base HU k hk.symm
    have hb2 := Kd.S_lt HS k (by simp [Value.ownBlock])
    omega
  have h3 := Kd.S_seg (okp := fun k => some k = u.ownBlock) (okg := fun k => some k = u.ownBlock) hH (by omega) (by omega) (seg := [u]) (j := 0) (by rw [hsz]; exact Nat.le_refl _) (x' := zs) ⟨u, rfl, Kd.R_tight rfl (Kd.R_lower HU hbase)⟩ (fun k hk => Or.inr hk) (fun k hk => ⟨trivial, hug k hk⟩)
  simp only [hsz, Int.toNat_natCast, Nat.mul_one, Nat.add_zero] at h3
  exact ⟨⟨c0, h1⟩, h2, h3⟩
end Go.Proofs.YtdlbmbijobcljaaDoor.X

namespace Go.Proofs.YtdlbmbijobcljaaDoor.X
open Go.RowKit Go.Proofs.YtdlbmbijobcljaaDoorW.PrintWords Go.Proofs.YtdlbmbijobcljaaDoorW.PrintLast Go.Proofs.YtdlbmbijobcljaaDoorW.PrintMore
set_option linter.unusedVariables false
set_option linter.unusedSimpArgs false

/-- The first i elements copied, the others still empty. -/
def copyAt (l : List (List Int)) (i : Nat) : List (List Int) := l.take i ++ List.replicate (l.length - i) []
theorem copyAt_length (l : List (List Int)) (i : Nat) : (copyAt l i).length = l.length := by simp only [copyAt, List.length_append, List.length_take, List.length_replicate]; omega
theorem copyAt_zero (l : List (List Int)) : copyAt l 0 = List.replicate l.length [] := by simp [copyAt]
theorem copyAt_all (l : List (List Int)) : copyAt l l.length = l := by simp [copyAt]
theorem copyAt_step (l : List (List Int)) (i : Nat) (hi : i < l.length) (z : List Int) : ((copyAt l i).set i z).set i (l.getD i []) = copyAt l (i + 1) := by
  rw [List.set_set]
  apply List.ext_getElem?
  intro j
  have hl := copyAt_length l i
  rw [List.getElem?_set]
  simp only [copyAt_length]
  by_cases hj : i = j
  · subst hj
    rw [if_pos rfl, if_pos hi]
    simp only [copyAt, List.getElem?_append, List.length_take]
    rw [if_pos (by omega), List.getElem?_take_of_lt (by omega), List.getD_eq_getElem?_getD, List.getElem?_eq_getElem hi]
    rfl
  · rw [if_neg hj]
    simp only [copyAt, List.getElem?_append, List.length_take]
    by_cases h1 : j < i
    · rw [if_pos (by omega), if_pos (by omega), List.getElem?_take_of_lt (by omega), List.getElem?_take_of_lt (by omega)]
    · rw [if_neg (by omega), if_neg (by omega)]
      simp only [List.getElem?_replicate]
      by_cases h2 : j < l.length
      · rw [if_pos (by omega), if_pos (by omega)]
      · rw [if_neg (by omega), if_neg (by omega)]
theorem kd_sz : (Kd.slice 3 (Kd.int .i64)).sz = 1 := rfl
theorem cell_below {w w' : World} (h : Below w.heap.size w w') {a : Addr} {v : Value} (hc : w.cell? a = some v) : w'.cell? a = some v := by
  rw [h.cell (World.block_lt_of_cell? w a hc)]; exact hc
/-- A made row's head. -/
theorem S_form {d : Kd (List Int)} {e : Nat} {w : World} {base m : Nat} {ok : Nat → Prop} {v : Value} {xs : List (List Int)} (h : Kd.S d e w base ok v xs) (hb : ∃ b, v.ownBlock = some b ∧ m ≤ b) : ∃ g c, v = .slice (some ⟨g, 0, none⟩) xs.length c := by
  obtain ⟨A, c, rfl⟩ := Kd.R_slice (Kd.S_R h)
  obtain ⟨b, hb, _⟩ := hb
  cases A with
  | none => simp [Value.ownBlock] at hb
  | some ad =>
    obtain ⟨g, rfl⟩ := Kd.R_head (Kd.S_R h)
    exact ⟨g, c, rfl⟩

theorem put_getD (xs : List (List Int)) {i : Nat} {z : List Int} (hi : i < xs.length) : (xs.set i z).getD i [] = z := by
  rw [List.getD_eq_getElem?_getD, List.getElem?_set, if_pos rfl, if_pos hi]; rfl
def feature_copied.f (l0 : List (List Int)) : Option (List (List Int)) := if l0.length ≤ 5864062014805 ∧ ∀ x ∈ l0, x.length ≤ 17592186044416 then some l0 else none
set_option maxHeartbeats 8000000 in
set_option maxRecDepth 100000 in
theorem feature_copied.calls (A0 : Option Addr) (c0 : Nat) (l0 : List (List Int)) (r : List (List Int)) (w : World) (hr0 : Kd.C (Kd.slice 3 (Kd.int .i64)) w A0 l0.length l0) (hc0 : l0.length ≤ c0) (h : feature_copied.f l0 = some r) :
    Calls Tryd.prog 122 #[.slice A0 l0.length c0] w fun e w' => ∃ v0_ : Value, e = .returned (v0_) ∧ Kd.S (Kd.slice 3 (Kd.int .i64)) 22 w' w.heap.size (fun _ => True) v0_ r ∧ Below w.heap.size w w' := by
  unfold feature_copied.f at h
  by_cases hs : l0.length ≤ 5864062014805 ∧ ∀ x ∈ l0, x.length ≤ 17592186044416
  · rw [if_pos hs] at h
    obtain rfl := Option.some.inj h
    obtain ⟨hs0, hs1⟩ := hs
    clear h
    have HR0 := Aside0.mk hr0
    have HC0 := Aside0.mk hc0
    clear hr0 hc0
    have HS1 := Aside0.mk hs1
    clear hs1
    have HB := Aside0.mk (Below.refl w.heap.size w)
    go_enter Tryd.func122, Tryd.ntmps122
    go_wp2_with (first | ((with_reducible refine gate_dst (N := 8) rfl ?_); refine Kd.S_make (Kd.slice 3 (Kd.int .i64)) w.heap.size 22 rfl (N := 8) rfl 42 _ _ rfl (l0.length : Int) rfl rfl Tryd.underlying42 (.slice none 0 0) 24 info22 rfl (by decide) (by omega) ([] : List Int) (ok := fun _ => True) (okp := fun _ => True) ⟨_, rfl, Kd.R_nil _ _ _ _ _⟩ (fun _ hk => hk) trivial (by omega) (by omega) HB.out (Nat.le_refl _) ?_; intro v103 w5 ho hb hg_ hnew_; clear hg_; rw [Int.toNat_natCast, ← copyAt_zero] at ho; obtain ⟨g, c, eo⟩ := S_form ho hnew_; rw [copyAt_length] at eo; subst eo; clear hnew_; have HO := Aside0.mk ho; have HB2 := Aside0.mk hb; clear ho hb))
    go_loopg [11] (l0.length + 1) (fun kq v11 w' => ∃ (x : Int), v11 = .int .i64 x ∧ 0 ≤ x ∧ x ≤ (l0.length : Int) ∧ x.toNat + kq = l0.length + 1 ∧ Aside0 (Kd.S (Kd.slice 3 (Kd.int .i64)) 22 w' w.heap.size (fun _ => True) (.slice (some ⟨g, 0, none⟩) l0.length c) (copyAt l0 x.toNat)) ∧ Aside0 (Below w.heap.size w w'))
    case atStart => exact ⟨0, rfl, by omega, by omega, by simp, HO, HB2⟩
    case round =>
      clear HO HB2
      obtain ⟨x, rfl, hx0, hxn, hk, HO, HB⟩ := hrel
      by_cases c5 : x < (l0.length : Int)
      · have c5b : decide (x < (l0.length : Int)) = true := decide_eq_true c5
        have c5a : decide (0 ≤ x) = true := decide_eq_true hx0
        obtain ⟨ad101, A101, c101, e101, hx101', hl101, hi101⟩ := at_L2 HR0.out x hx0 c5
        have hx101 := cell_below HB.out hx101'
        cases e101
        have hlen : (rd_L2 l0 x).length ≤ 17592186044416 := by
          have : rd_L2 l0 x ∈ l0 := by
            unfold rd_L2
            rw [List.getD_eq_getElem?_getD, List.getElem?_eq_getElem (by omega : x.toNat < l0.length)]
            exact List.getElem_mem _
          exact HS1.out _ this
        have p := eq_true hx0
        have q := eq_true c5
        go_wp2_with (first
          | ((with_reducible refine gate_dst (N := 20) rfl ?_); go_must (refine Kd.R_make (Kd.int .i64) wr.heap.size 3 rfl (N := 20) rfl 22 _ _ rfl ((rd_L2 l0 x).length : Int) rfl rfl Tryd.underlying22 (.int .i64 0) 8 info3 rfl (by decide) (by omega) 0 (ok := fun _ => True) (okp := fun _ => True) rfl (fun _ hk => hk) trivial (by omega) (by omega) (Below.refl _ wr) (Nat.le_refl _) ?_; intro u w5 ho hb hg_ hnew_; clear hg_ hnew_; obtain ⟨zs, hzs, ho⟩ : ∃ zs : List Int, zs.length = (rd_L2 l0 x).length ∧ Kd.R (Kd.int .i64) 3 w5 wr.heap.size (fun _ => True) u zs := ⟨_, by simp, ho⟩; obtain ⟨Au, cu, eu⟩ := Kd.R_slice ho; rw [hzs] at eu; subst eu; obtain ⟨⟨x9, hx9⟩, hf9, hS9, hg9⟩ := S_put HO.out ho hb (below_size HB.out) x.toNat (by omega); have HS := Aside0.mk hS9; have HB3 := Aside0.mk (below_set (j := x.toNat) (v := (.slice Au (rd_L2 l0 x).length cu)) (below_step HB.out hb) (Kd.S_base HO.out g rfl)); clear hS9 hg9 ho hb))
          | ((with_reducible refine gate_store (t := 22) (p := 21) rfl ?_); go_must (refine store_event (t := 22) (p := 21) (v := ?vo_) (w1 := (w5.setCell ⟨g, (x : Int).toNat, none⟩ (.slice Au (rd_L2 l0 x).length cu))) ?hg ?ho ?hn ?hr ?_; (case ho => rfl); (case hg => rfl); (case hn => rfl); (case hr => first | (go_simp; done) | (go_simp; rfl)); intro w11 hw; have HS2 : Aside0 (Kd.S (Kd.slice 3 (Kd.int .i64)) 22 w11 w.heap.size (fun _ => True) (.slice (some ⟨g, 0, none⟩) l0.length c) ((copyAt l0 x.toNat).set x.toNat zs)) := ⟨by rw [hw]; exact HS.out⟩; have HB4 := Aside0.mk (by rw [hw]; exact HB3.out : Below w.heap.size w w11); clear HS HB3 hw; obtain ⟨oki, cc, hcl, ⟨u', hcu, HRu⟩, hcc, hoki, hback⟩ := Kd.S_borrow HS2.out ([] : List Int) x hx0 c5; subst hcu; have hx25 : w11.cell? ⟨g, x.toNat, none⟩ = some u' := (by have z := hcc 0 u' rfl; rw [kd_sz, add_at, Nat.zero_add, Nat.mul_one, Nat.add_zero] at z; exact z); rw [put_getD _ (by rw [copyAt_length]; omega)] at HRu; obtain ⟨Au, cu, eu⟩ := Kd.R_slice HRu; rw [hzs] at eu; subst eu; have HRU := Aside0.mk HRu; clear HRu))
          | ((with_reducible refine gate_dst (N := 27) rfl ?_); go_must (refine R_copy rfl (.tmp 25) (.tmp 26) 22 3 rfl Tryd.underlying22 (by kernel_rfl) (B := w.heap.size) (w0 := w) rfl rfl HRU.out (Kd.C_below hi101 HB4.out) HB4.out (Nat.le_refl _) ?_; intro w6 ho hb hgr_; have HS3 := hback hgr_ (fun k hk => HRU.out.1 k hk) ⟨_, rfl, ho⟩; have hcp : (rd_L2 l0 x).take zs.length ++ zs.drop (rd_L2 l0 x).length = l0.getD x.toNat [] := (by rw [hzs, List.take_length, List.drop_of_length_le (by omega), List.append_nil]; rfl); rw [hcp, copyAt_step l0 x.toNat (by omega)] at HS3; have HS4 := Aside0.mk HS3; have HB5 := Aside0.mk hb))
          )
        go_roundg (gk - 1)
        case measure => omega
        case rel => exact ⟨x + 1, rfl, by omega, by omega, by omega, ⟨by rw [(by omega : (x + 1).toNat = x.toNat + 1)]; exact HS4.out⟩, HB5⟩
      · have c5b : decide (x < (l0.length : Int)) = false := decide_eq_false c5
        have hxe : x.toNat = l0.length := by omega
        go_wp2
        go_ret
        exact ⟨_, rfl, by have := HO.out; rw [hxe, copyAt_all] at this; exact this, HB.out⟩
  · rw [if_neg hs] at h
    exact absurd h (by simp)
end Go.Proofs.YtdlbmbijobcljaaDoor.X

namespace Go.Proofs.YtdlbmbijobcljaaDoor.X
open Go.RowKit Go.Proofs.YtdlbmbijobcljaaDoorW.PrintWords Go.Proofs.YtdlbmbijobcljaaDoorW.PrintLast Go.Proofs.YtdlbmbijobcljaaDoorW.PrintMore
set_option linter.unusedVariables false
set_option linter.unusedSimpArgs false

/-- A row of numbers that is read where the call began: nothing that the call makes is said of it. -/
def lent (w0 : World) : Kd (List Int) where
  sz := 1
  E := []
  K := fun _ x cs => ∃ A c, cs = [.slice A x.length c] ∧ x.length ≤ c ∧ (Kd.int .i64).C w0 A x.length x
  M := fun _ _ _ x cs => ∃ A c, cs = [.slice A x.length c] ∧ x.length ≤ c ∧ (Kd.int .i64).C w0 A x.length x
  K_len := by
    rintro w x cs ⟨A, c, rfl, _⟩
    rfl
  K_one := by
    rintro w x cs ⟨A, c, rfl, _⟩ u hu
    rw [List.mem_singleton.1 hu]
    rfl
  K_below := fun _ h => h
  K_of_M := fun h => h
  M_mono := fun _ h => h
  M_bound := fun h => h
  M_move := fun _ h => h
  M_lower := fun _ h => h
theorem lent_C {w0 w : World} (hb : Below w0.heap.size w0 w) {A : Option Addr} {n : Nat} {xs : List (List Int)} (h : (lent w0).C w A n xs) : (Kd.slice 3 (Kd.int .i64)).C w A n xs :=
  ReadsRow.imp_ h (Below.refl _ _) (fun _ _ ⟨A, c, e, hl, hC⟩ => ⟨A, c, e, hl, Kd.C_below hC hb⟩)
theorem lent_sz (w0 : World) : (Kd.slice 22 (lent w0)).sz = 1 := rfl
/-- Element i of a row of rows, lent; what has grown of it is put back. -/
theorem S_lent {w0 W : World} {base g n cap : Nat} {xs : List (List (List Int))} (HS : Kd.S (Kd.slice 22 (lent w0)) 42 W base (fun _ => True) (.slice (some ⟨g, 0, none⟩) n cap) xs) (i : Int) (h0 : 0 ≤ i) (h1 : i < n) :
    ∃ (oki : Nat → Prop) (A : Option Addr) (c : Nat), W.cell? ⟨g, i.toNat, none⟩ = some (.slice A (xs.getD i.toNat []).length c) ∧ Kd.R (lent w0) 22 W base (fun k => oki k ∨ W.heap.size ≤ k) (.slice A (xs.getD i.toNat []).length c) (xs.getD i.toNat []) ∧
      ∀ w1 v1 ys, Kd.R (lent w0) 22 w1 base (fun k => oki k ∨ W.heap.size ≤ k) v1 ys → W.grownBy w1 (Value.slice A (xs.getD i.toNat []).length c).ownBlock →
        (∃ x, w1.cell? ⟨g, i.toNat, none⟩ = some x) ∧ w1.frozen? ⟨g, i.toNat, none⟩ = false ∧ Kd.S (Kd.slice 22 (lent w0)) 42 (w1.setCell ⟨g, i.toNat, none⟩ v1) base (fun _ => True) (.slice (some ⟨g, 0, none⟩) n cap) (xs.set i.toNat ys) := by
  have hgl := Kd.S_lt HS g (by simp [Value.ownBlock])
  have HS2 : Kd.S (Kd.slice 22 (lent w0)) 42 W base (fun k => True ∧ ¬ (W.heap.size ≤ k)) (.slice (some ⟨g, 0, none⟩) n cap) xs := Kd.S_mono (Kd.S_bound HS) (fun k hk => ⟨trivial, by have := hk.2.2.1; omega⟩)
  obtain ⟨oki, c, hcl, ⟨v, hcv, hR⟩, hcc, hfr, hoki, hH⟩ := Kd.S_elem HS2 [] i h0 h1
  subst hcv
  obtain ⟨A, cp, rfl⟩ := Kd.R_slice hR
  have h2 := hcc 0 _ rfl
  rw [lent_sz, Nat.mul_one, Nat.add_zero] at h2
  refine ⟨oki, A, cp, h2, Kd.R_mono hR (fun k hk => Or.inl hk), fun w1 v1 ys hR1 hg => ?_⟩
  have hH1 := Kd.H_grown hH hg (fun k hk => hR.1 k hk)
  have h3 := Kd.S_seg (okp := fun k => oki k ∨ W.heap.size ≤ k) (okg := fun k => W.heap.size ≤ k) hH1 h0 h1 (seg := [v1]) (j := 0) (by rw [lent_sz]; exact Nat.le_refl _) (x' := ys) ⟨v1, rfl, hR1⟩ (fun k hk => hk) (fun k hk => ⟨trivial, by omega⟩)
  rw [lent_sz, Nat.mul_one, Nat.add_zero] at h3
  obtain ⟨rows, hrl, hraw, _, _, hcells, _⟩ := Kd.H_raw hH1 h0 h1
  have h4 := hcells 0 _ rfl
  rw [lent_sz, Nat.mul_one, Nat.add_zero] at h4
  obtain ⟨_, _, _, _, hfz⟩ := Kd.R_elem hraw [] i h0 h1
  have h5 := hfz 0
  rw [lent_sz] at h5
  simp only [Kd.raw, Nat.mul_one, Nat.add_zero] at h5
  exact ⟨⟨_, h4⟩, h5, h3.1⟩
end Go.Proofs.YtdlbmbijobcljaaDoor.X

namespace Go.Proofs.YtdlbmbijobcljaaDoor.X
open Go.RowKit Go.Proofs.YtdlbmbijobcljaaDoorW.PrintWords Go.Proofs.YtdlbmbijobcljaaDoorW.PrintLast Go.Proofs.YtdlbmbijobcljaaDoorW.PrintMore
set_option linter.unusedVariables false
set_option linter.unusedSimpArgs false

/-- A call of a function value that is known. -/
theorem goesV_ {P : Program} {Q : Exit → Act → World → Prop} {ops : Array Oper} {oi : Oper} {N : Option Tmp} {a : Act} {w : World} {K : Act → World → Prop} {f : FuncId} {fn : Func} {os : Array Operand} {ts : Array TypeId} {t : Operand} {cap : Array Value} (hf : P.funcs[f]? = some fn) (hname : (fn.name == "runtime.NumGoroutine") = false) (hb : fn.body.isSome = true) (args : Array Value)
    (hw : Region.wanted oi (yielded ops a.tmps) = true) (hN : oi.dst = N) (hop : oi.op = .call { callee := .value t, args := os, argTypes := ts }) (hfv : a.eval t = .func (.func f) #[] cap) (hargs : os.map a.eval ++ cap = args)
    (h : Calls P f args w fun e w' => ∃ v, e = .returned v ∧ K (a.put N v) w') : if Region.wanted oi (yielded ops a.tmps) = true then Oper.wp P oi a w K Q else K (a.put N undef) w := by
  refine call_ f args hw hN ?_ h
  have he := enters_ hf hname hb args w
  unfold execOp
  simp [hop, resolve, Deferred.ofValue, invoke, hargs, he, hfv]
def opSub (a b : Int) : Int := wrap64 (a - b)
def opAdd (a b : Int) : Int := wrap64 (a + b)
def clo (op : Int → Int → Int) (a b : Int) : Option Int := some (op a b)
def comb.l0 (op : Int → Int → Int) : Nat → List Int → List Int → List Int → Int → Int → Option (List Int)
  | 0, _, _, _, _, _ => none
  | k + 1, x0, x1, x7, x13, x14 => if x14 < x13 then (if 0 ≤ x14 then (if x14 < (x0.length : Int) then (if x14 < (x1.length : Int) then ((clo op (rd x0 x14) (rd x1 x14)).bind fun t106 => (if x14 < (x7.length : Int) then (comb.l0 op k x0 x1 (x7.set (x14 : Int).toNat t106) x13 (wrap64 (x14 + 1))) else (none))) else (none)) else (none)) else (none)) else (some x7)
def comb.f (op : Int → Int → Int) (k : Nat) (l0 : List Int) (l1 : List Int) : Option (List Int) := if 0 ≤ (l0.length : Int) then (if ((l0.length : Int) : Int).toNat ≤ 35184372088832 then (comb.l0 op k l0 l1 (List.replicate ((l0.length : Int) : Int).toNat 0) (l0.length : Int) 0) else (none)) else (none)
/-- What the loop comes to. -/
theorem comb_loop (op : Int → Int → Int) (l0 l1 : List Int) (h1 : l0.length ≤ l1.length) (hb : l0.length ≤ 4611686018427387904) (d : Nat) : ∀ (k : Nat) (i : Nat), i + d = l0.length → d < k →
    comb.l0 op k l0 l1 ((List.zipWith op (l0.take i) (l1.take i)) ++ List.replicate d 0) (l0.length : Int) (i : Int) = some (List.zipWith op l0 l1) := by
  induction d with
  | zero =>
    intro k i hi hk
    obtain ⟨k, rfl⟩ : ∃ m, k = m + 1 := ⟨k - 1, by omega⟩
    simp only [comb.l0]
    rw [if_neg (by omega)]
    rw [List.replicate_zero, List.append_nil, List.take_of_length_le (by omega)]
    congr 1
    refine List.ext_getElem (by simp; omega) (fun n h1 h2 => ?_)
    simp
  | succ d ih =>
    intro k i hi hk
    obtain ⟨k, rfl⟩ : ∃ m, k = m + 1 := ⟨k - 1, by omega⟩
    have hlt : i < l0.length := by omega
    have hz : (List.zipWith op (l0.take i) (l1.take i)).length = i := by simp; omega
    simp only [comb.l0]
    rw [if_pos (by omega), if_pos (by omega), if_pos (by omega), if_pos (by omega)]
    simp only [clo, Option.bind_some]
    rw [if_pos (by rw [List.length_append, hz, List.length_replicate]; omega)]
    have hw : wrap64 ((i : Int) + 1) = ((i + 1 : Nat) : Int) := by unfold wrap64; omega
    rw [hw]
    have hs : ((List.zipWith op (l0.take i) (l1.take i)) ++ List.replicate (d + 1) 0).set ((i : Int)).toNat (op (rd l0 i) (rd l1 i)) = (List.zipWith op (l0.take (i + 1)) (l1.take (i + 1))) ++ List.replicate d 0 := by
      rw [Int.toNat_natCast]
      have e0 : rd l0 (i : Int) = l0[i] := by simp [rd, List.getD_eq_getElem?_getD, List.getElem?_eq_getElem hlt]
      have e1 : rd l1 (i : Int) = l1[i] := by simp [rd, List.getD_eq_getElem?_getD, List.getElem?_eq_getElem (show i < l1.length by omega)]
      rw [e0, e1, List.set_append_right _ _ (by omega), hz, Nat.sub_self, List.replicate_succ, List.set_cons_zero]
      rw [List.take_succ_eq_append_getElem hlt, List.take_succ_eq_append_getElem (show i < l1.length by omega), List.zipWith_append (by simp; omega)]
      simp
    rw [hs]
    exact ih k (i + 1) (by omega) (by omega)
theorem comb_is (op : Int → Int → Int) (l0 l1 : List Int) (h1 : l0.length ≤ l1.length) (hb : l0.length < 17592186044416) : comb.f op (l0.length + 1) l0 l1 = some (List.zipWith op l0 l1) := by
  unfold comb.f
  rw [if_pos (by omega), if_pos (by omega)]
  have := comb_loop op l0 l1 h1 (by omega) l0.length (l0.length + 1) 0 (by omega) (by omega)
  simpa using this
def comb.T5 : Bool × List (List Nat × List Nat) := (true, [([], []), ([], []), ([], []), ([], []), ([], []), ([3, 4], [3, 4]), ([5], [5]), ([], []), ([], []), ([7, 8], [7, 8]), ([9], [9]), ([2, 6, 10], [2, 6, 10]), ([0, 1, 0, 1, 2, 3, 4, 5, 6, 7, 8, 9, 10, 11], [0, 1]), ([12, 11, 11, 0, 1, 2, 3, 4, 5, 6, 7, 8, 9, 10, 11], [11, 12])])
def comb.B5 : List Nat := [0, 0, 0, 0, 0, 24, 56, 0, 0, 384, 896, 2044, 4095, 8191]
theorem comb.tab5 : rtab .any (opsOf Tryd.f148 5) = comb.T5 := by kernel_rfl
theorem comb.bits5 : waitsOk comb.T5.2 comb.B5 = true := by kernel_rfl
set_option maxHeartbeats 4000000 in
theorem clo149.calls (a b t : Int) (w : World) (h : clo opSub a b = some t) : Calls Tryd.prog 149 #[.int .i64 a, .int .i64 b] w fun e w' => e = .returned (.int .i64 t) ∧ Drawn0 w w' := by
  obtain rfl := Option.some.inj h
  unfold opSub
  clear h
  go_enter Tryd.func149, Tryd.ntmps149
  go_wp2
  go_ret
  exact ⟨rfl, Drawn0.refl _⟩
set_option maxHeartbeats 8000000 in
set_option maxRecDepth 100000 in
theorem comb149.calls (k : Nat) (A0 : Option Addr) (c0 : Nat) (l0 : List Int) (A1 : Option Addr) (c1 : Nat) (l1 : List Int) (r : List Int) (w : World) (hr0 : Kd.C (Kd.int .i64) w A0 l0.length l0) (hc0 : l0.length ≤ c0) (hr1 : Kd.C (Kd.int .i64) w A1 l1.length l1) (hc1 : l1.length ≤ c1) (h : comb.f opSub k l0 l1 = some r) :
    Calls Tryd.prog 148 #[.slice A0 l0.length c0, .slice A1 l1.length c1, .func (.func 149) #[] #[]] w fun e w' => ∃ v0_ : Value, e = .returned (v0_) ∧ Kd.R (Kd.int .i64) 3 w' w.heap.size (fun _ => True) v0_ r ∧ Below w.heap.size w w' := by
  have HR0 := Aside0.mk hr0
  have HC0 := Aside0.mk hc0
  clear hr0 hc0
  have HR1 := Aside0.mk hr1
  have HC1 := Aside0.mk hc1
  clear hr1 hc1
  have HB := Aside0.mk (Below.refl w.heap.size w)
  have H : (if 0 ≤ (l0.length : Int) then (if ((l0.length : Int) : Int).toNat ≤ 35184372088832 then (comb.l0 opSub k l0 l1 (List.replicate ((l0.length : Int) : Int).toNat 0) (l0.length : Int) 0) else (none)) else (none)) = some r := h
  clear h
  by_cases c3 : 0 ≤ (l0.length : Int)
  · rw [if_pos c3] at H
    have c3b0 := eq_true c3
    have c3b1 := decide_eq_true c3
    clear c3
    by_cases c4 : ((l0.length : Int) : Int).toNat ≤ 35184372088832
    · rw [if_pos c4] at H
      have c4b0 := eq_true c4
      have c4b1 := decide_eq_true c4
      clear c4
      obtain ⟨y101, hy101⟩ : ∃ y_ : List Int, y_ = (List.replicate ((l0.length : Int) : Int).toNat 0) := ⟨_, rfl⟩
      replace H : (comb.l0 opSub k l0 l1 y101 (l0.length : Int) 0) = some r := by first | (rw [hy101]; with_reducible exact H) | (have H2_ := (Option.bind_some _ _).symm.trans H; rw [hy101]; with_reducible exact H2_) | (have H2_ := (Option.bind_some _ _).symm.trans H; with_reducible exact H2_) | with_reducible exact H | (rw [hy101]; exact H) | exact H
      have Ny101 := Aside0.mk hy101
      clear hy101
      have H' := Aside0.mk H
      clear H
      go_enter Tryd.func148, Tryd.ntmps148
      go_wp2_with (first | ((with_reducible refine gate_dst (N := 11) rfl ?_); refine Kd.R_make (Kd.int .i64) _ 3 rfl (N := 11) rfl 22 _ _ rfl (l0.length : Int) rfl rfl Tryd.underlying22 (.int .i64 0) 8 info3 rfl (by decide) (by omega) 0 (ok := fun _ => True) (okp := fun _ => True) rfl (fun _ hk => hk) trivial (of_decide_eq_true tA) (Nat.le_trans (Nat.mul_le_mul_right _ (of_decide_eq_true tA : (l0.length : Int).toNat ≤ 35184372088832)) (by omega)) (Below.refl _ _) (Nat.le_refl _) ?_; intro v102 w5 ho6 hb hg_ hnew_; clear hg_ hnew_; (first | rw [← Ny101.out] at ho6 | (simp only [Int.reduceToNat] at ho6; rw [← Ny101.out] at ho6)); have HO103 := Aside0.mk (Kd.R_lower ho6 (below_size tB)); replace HB := Aside0.mk (below_step tB hb); clear hb ho6))
      go_loopg [14] k (fun kq v14 w' => ∃ (x7_1 : List Int) (x14_1 : Int), v14 = .int .i64 x14_1 ∧ Aside0 (comb.l0 opSub kq l0 l1 x7_1 (l0.length : Int) x14_1 = some r) ∧ Aside0 (kq ≤ k) ∧ Aside0 (Kd.R (Kd.int .i64) 3 w' w.heap.size (fun _ => True) v102 x7_1) ∧ Aside0 (Below w.heap.size w w'))
      case atStart => exact ⟨(y101), (0), (by first | rfl | (simp; done) | (simp only [i64_w]; done) | (simp [*]; done)), H', ⟨Nat.le_refl _⟩, ⟨tR HO103.out⟩, ⟨tB⟩⟩
      case round =>
        clear H'
        try clear c1
        try clear p2
        try clear c3
        try clear c3b0
        try clear c3b1
        try clear c4
        try clear c4b0
        try clear c4b1
        obtain ⟨x7_1, x14_1, rfl, HA, HK1, HO_7, HB⟩ := hrel
        cases gk with
        | zero => exact absurd HA.out (by simp [comb.l0])
        | succ k1 =>
          have H := HA.out
          clear HA
          simp only [comb.l0] at H
          by_cases c7 : x14_1 < (l0.length : Int)
          · rw [if_pos c7] at H
            have c7b0 := decide_eq_true c7
            clear c7
            by_cases c8 : 0 ≤ x14_1
            · rw [if_pos c8] at H
              have c8b0 := decide_eq_true c8
              clear c8
              by_cases c9 : x14_1 < (l0.length : Int)
              · rw [if_pos c9] at H
                have c9b0 := decide_eq_true c9
                clear c9
                by_cases c10 : x14_1 < (l1.length : Int)
                · rw [if_pos c10] at H
                  have c10b0 := decide_eq_true c10
                  clear c10
                  replace H := Option.bind_eq_some_iff.mp H
                  obtain ⟨t106, A110, H⟩ := H
                  try dsimp only at H
                  have A11 := Aside0.mk A110
                  clear A110
                  by_cases c12 : x14_1 < (x7_1.length : Int)
                  · rw [if_pos c12] at H
                    have c12b0 := decide_eq_true c12
                    clear c12
                    obtain ⟨y107, hy107⟩ : ∃ y_ : List Int, y_ = (x7_1.set (x14_1 : Int).toNat t106) := ⟨_, rfl⟩
                    replace H : (comb.l0 opSub k1 l0 l1 y107 (l0.length : Int) (wrap64 (x14_1 + 1))) = some r := by first | (rw [hy107]; with_reducible exact H) | (have H2_ := (Option.bind_some _ _).symm.trans H; rw [hy107]; with_reducible exact H2_) | (have H2_ := (Option.bind_some _ _).symm.trans H; with_reducible exact H2_) | with_reducible exact H | (rw [hy107]; exact H) | exact H
                    have Ny107 := Aside0.mk hy107
                    clear hy107
                    have H' := Aside0.mk H
                    clear H
                    try go_wp2
                    replace HO_7 := Aside0.mk (Kd.R_drew HO_7.out)
                    replace HB := Aside0.mk (below_drew1 HB.out)
                    have p104 : 0 ≤ (x14_1 : Int) := of_decide_eq_true tA
                    have q104 : x14_1 < (l0.length : Int) := of_decide_eq_true tA
                    obtain ⟨ad104, e104, hx104_0⟩ := Kd.at_int HR0.out x14_1 p104 q104
                    have hw104_0 := hx104_0
                    cases e104
                    replace hx104_0 := (HB.out.cell (World.block_lt_of_cell? w _ hx104_0)).trans hx104_0
                    replace p104 := eq_true p104
                    replace q104 := eq_true q104
                    have p105 : 0 ≤ (x14_1 : Int) := of_decide_eq_true tA
                    have q105 : x14_1 < (l1.length : Int) := of_decide_eq_true tA
                    obtain ⟨ad105, e105, hx105_0⟩ := Kd.at_int HR1.out x14_1 p105 q105
                    have hw105_0 := hx105_0
                    cases e105
                    replace hx105_0 := (HB.out.cell (World.block_lt_of_cell? w _ hx105_0)).trans hx105_0
                    replace p105 := eq_true p105
                    replace q105 := eq_true q105
                    refine start_ (n := 14) (S := fun w' => w'.cell? (ad104.add (x14_1).toNat) = some (.int .i64 (rd l0 x14_1)) ∧ w'.cell? (ad105.add (x14_1).toNat) = some (.int .i64 (rd l1 x14_1))) (ds := [13]) (bm 0 14) (by kernel_rfl) rfl rfl ⟨((HB.out.cell (World.block_lt_of_cell? w _ hw104_0)).trans hw104_0), ((HB.out.cell (World.block_lt_of_cell? w _ hw105_0)).trans hw105_0)⟩ (fun hHeld => ?_); refine with_tabW comb.tab5 comb.bits5 (fun HT_ HW_ => ?_)
                    generalize wr.drew = w14 at HO_7 HB hx104_0 hx105_0 hHeld ⊢
                    refine pI 0 (some 17) (bm 1 14) HT_.out ?_
                    refine pI 1 (some 18) (bm 2 14) HT_.out ?_
                    refine pI 2 (some 19) (bm 3 14) HT_.out ?_
                    refine pI 3 (some 20) (bm 4 14) HT_.out ?_
                    refine pI 4 (some 21) (bm 5 14) HT_.out ?_
                    refine pI 5 (some 22) (bm 6 14) HT_.out ?_
                    refine pI 7 (some 24) (bq 191 14) HT_.out ?_
                    refine pI 8 (some 25) (bq 447 14) HT_.out ?_
                    refine pI 9 (some 26) (bq 959 14) HT_.out ?_
                    refine tk2 6 (some 23) (bm 10 14) HT_.out HW_.out hHeld ?_
                    refine tk2 10 (some 27) (bm 11 14) HT_.out HW_.out hHeld ?_
                    refine one_ (i := 11) (N := some 28) (bm 12 14) rfl rfl (one_of HT_.out (by kernel_rfl)) (by decide) (fun K hK => ?_)
                    refine goesV_ Tryd.func149 (by kernel_rfl) rfl #[.int .i64 (rd l0 x14_1), .int .i64 (rd l1 x14_1)] (by rfl) rfl rfl (by rfl) tL ?_
                    with_reducible refine (clo149.calls (rd l0 x14_1) (rd l1 x14_1) t106 _ A11.out).mono ?_
                    rintro e w' ⟨rfl, ⟨nd, rfl⟩⟩
                    refine ⟨_, rfl, ?_⟩
                    have p13 : 0 ≤ (x14_1 : Int) := of_decide_eq_true tA
                    have q13 : (x14_1 : Int) < ((x7_1.length : Int) : Int) := of_decide_eq_true tA
                    obtain ⟨go13, co13, eo13, gb13, gl13, cl13, HG13⟩ := Kd.R_form HO_7.out (by omega)
                    (first | cases eo13 | (injection eo13 with ea_ en_ ec_; (first | subst ea_ | (injection ea_ with ea_; subst ea_)); subst ec_; clear en_))
                    have GB13 := Aside0.mk gb13
                    have GG13 := Aside0.mk HG13
                    clear gb13 gl13 HG13
                    obtain ⟨hx13_0, hf13_0⟩ := Kd.R_celln 0 HO_7.out (x14_1 : Int) p13 q13
                    replace p13 := eq_true p13
                    replace q13 := eq_true q13
                    have HP15 := Kd.R_putn HO_7.out (x14_1 : Int) t106
                    rw [← Ny107.out] at HP15
                    have HQ15 := Aside0.mk HP15
                    clear HP15
                    refine hK.out _ _ ⟨((HB.out.cell (World.block_lt_of_cell? w _ hw104_0)).trans hw104_0), ((HB.out.cell (World.block_lt_of_cell? w _ hw105_0)).trans hw105_0)⟩ (fun hHeld => ?_)
                    clear hK K
                    refine nm ?_
                    refine pI 12 (some 29) (bm 13 14) HT_.out ?_
                    refine last_ (i := 13) (N := none) (bm 14 14) rfl rfl (one_of HT_.out (by kernel_rfl)) (by decide) (fun K hK => ?_)
                    refine skip_ (w1 := ?_) (by rfl) rfl ?_ ?_
                    rotate_left
                    · go_simp
                      rfl
                    refine hK.out _ _ ?_
                    clear hK K
                    refine done_ (done_of HT_.out (by kernel_rfl)) ?_
                    try go_wp2
                    go_roundg k1
                    case measure => have := HK1.out; omega
                    case rel => exact ⟨(y107), (wrap64 (x14_1 + 1)), (by first | rfl | (simp; done) | (simp only [i64_w]; done) | (simp [*]; done)), H', ⟨by have := HK1.out; omega⟩, ⟨tR HQ15.out⟩, ⟨by repeat (first | (with_reducible first | exact HB.out | apply below_alloc | apply pw_below_drewN | apply below_drew1 | refine below_set ?_ GB13.out) | exact HB.out)⟩⟩
                  · rw [if_neg c12] at H
                    exact absurd H (by simp)
                · rw [if_neg c10] at H
                  exact absurd H (by simp)
              · rw [if_neg c9] at H
                exact absurd H (by simp)
            · rw [if_neg c8] at H
              exact absurd H (by simp)
          · rw [if_neg c7] at H
            have c7b0 := decide_eq_false c7
            clear c7
            obtain rfl := Option.some.inj H
            go_wp2
            go_ret
            exact ⟨_, by first | rfl | (simp [errW_none, errW_some] <;> rfl) | (simp [*, errW_none, errW_some] <;> rfl), tR HO_7.out, tB⟩
    · rw [if_neg c4] at H
      exact absurd H (by simp)
  · rw [if_neg c3] at H
    exact absurd H (by simp)

theorem combined_149.calls0 (A0 : Option Addr) (c0 : Nat) (l0 : List Int) (A1 : Option Addr) (c1 : Nat) (l1 : List Int) (r : List Int) (w : World) (hr0 : Kd.C (Kd.int .i64) w A0 l0.length l0) (hc0 : l0.length ≤ c0) (hr1 : Kd.C (Kd.int .i64) w A1 l1.length l1) (hc1 : l1.length ≤ c1) (h : (if l0.length ≤ l1.length ∧ l0.length < 17592186044416 then some (List.zipWith opSub l0 l1) else none) = some r) :
    Calls Tryd.prog 148 #[.slice A0 l0.length c0, .slice A1 l1.length c1, .func (.func 149) #[] #[]] w fun e w' => ∃ v0_ : Value, e = .returned (v0_) ∧ Kd.R (Kd.int .i64) 3 w' w.heap.size (fun _ => True) v0_ r ∧ Below w.heap.size w w' := by
  by_cases hl : l0.length ≤ l1.length ∧ l0.length < 17592186044416
  · rw [if_pos hl] at h
    obtain rfl := Option.some.inj h
    exact comb149.calls (l0.length + 1) A0 c0 l0 A1 c1 l1 _ w hr0 hc0 hr1 hc1 (comb_is opSub l0 l1 hl.1 hl.2)
  · rw [if_neg hl] at h
    exact absurd h (by simp)
def combined_149.f (l0 l1 : List Int) : Option (List Int) := if l0.length ≤ l1.length ∧ l0.length < 17592186044416 then some (List.zipWith opSub l0 l1) else none
theorem combined_149.calls (A0 : Option Addr) (c0 : Nat) (l0 : List Int) (A1 : Option Addr) (c1 : Nat) (l1 : List Int) (r : List Int) (w : World) (hr0 : Kd.C (Kd.int .i64) w A0 l0.length l0) (hc0 : l0.length ≤ c0) (hr1 : Kd.C (Kd.int .i64) w A1 l1.length l1) (hc1 : l1.length ≤ c1) (h : combined_149.f l0 l1 = some r) :
    Calls Tryd.prog 148 #[.slice A0 l0.length c0, .slice A1 l1.length c1, .func (.func 149) #[] #[]] w fun e w' => ∃ v0_ : Value, e = .returned (v0_) ∧ Kd.R (Kd.int .i64) 3 w' w.heap.size (fun _ => True) v0_ r ∧ Below w.heap.size w w' :=
  combined_149.calls0 A0 c0 l0 A1 c1 l1 r w hr0 hc0 hr1 hc1 h
set_option maxHeartbeats 4000000 in
theorem clo151.calls (a b t : Int) (w : World) (h : clo opSub a b = some t) : Calls Tryd.prog 151 #[.int .i64 a, .int .i64 b] w fun e w' => e = .returned (.int .i64 t) ∧ Drawn0 w w' := by
  obtain rfl := Option.some.inj h
  unfold opSub
  clear h
  go_enter Tryd.func151, Tryd.ntmps151
  go_wp2
  go_ret
  exact ⟨rfl, Drawn0.refl _⟩
set_option maxHeartbeats 8000000 in
set_option maxRecDepth 100000 in
theorem comb151.calls (k : Nat) (A0 : Option Addr) (c0 : Nat) (l0 : List Int) (A1 : Option Addr) (c1 : Nat) (l1 : List Int) (r : List Int) (w : World) (hr0 : Kd.C (Kd.int .i64) w A0 l0.length l0) (hc0 : l0.length ≤ c0) (hr1 : Kd.C (Kd.int .i64) w A1 l1.length l1) (hc1 : l1.length ≤ c1) (h : comb.f opSub k l0 l1 = some r) :
    Calls Tryd.prog 148 #[.slice A0 l0.length c0, .slice A1 l1.length c1, .func (.func 151) #[] #[]] w fun e w' => ∃ v0_ : Value, e = .returned (v0_) ∧ Kd.R (Kd.int .i64) 3 w' w.heap.size (fun _ => True) v0_ r ∧ Below w.heap.size w w' := by
  have HR0 := Aside0.mk hr0
  have HC0 := Aside0.mk hc0
  clear hr0 hc0
  have HR1 := Aside0.mk hr1
  have HC1 := Aside0.mk hc1
  clear hr1 hc1
  have HB := Aside0.mk (Below.refl w.heap.size w)
  have H : (if 0 ≤ (l0.length : Int) then (if ((l0.length : Int) : Int).toNat ≤ 35184372088832 then (comb.l0 opSub k l0 l1 (List.replicate ((l0.length : Int) : Int).toNat 0) (l0.length : Int) 0) else (none)) else (none)) = some r := h
  clear h
  by_cases c3 : 0 ≤ (l0.length : Int)
  · rw [if_pos c3] at H
    have c3b0 := eq_true c3
    have c3b1 := decide_eq_true c3
    clear c3
    by_cases c4 : ((l0.length : Int) : Int).toNat ≤ 35184372088832
    · rw [if_pos c4] at H
      have c4b0 := eq_true c4
      have c4b1 := decide_eq_true c4
      clear c4
      obtain ⟨y101, hy101⟩ : ∃ y_ : List Int, y_ = (List.replicate ((l0.length : Int) : Int).toNat 0) := ⟨_, rfl⟩
      replace H : (comb.l0 opSub k l0 l1 y101 (l0.length : Int) 0) = some r := by first | (rw [hy101]; with_reducible exact H) | (have H2_ := (Option.bind_some _ _).symm.trans H; rw [hy101]; with_reducible exact H2_) | (have H2_ := (Option.bind_some _ _).symm.trans H; with_reducible exact H2_) | with_reducible exact H | (rw [hy101]; exact H) | exact H
      have Ny101 := Aside0.mk hy101
      clear hy101
      have H' := Aside0.mk H
      clear H
      go_enter Tryd.func148, Tryd.ntmps148
      go_wp2_with (first | ((with_reducible refine gate_dst (N := 11) rfl ?_); refine Kd.R_make (Kd.int .i64) _ 3 rfl (N := 11) rfl 22 _ _ rfl (l0.length : Int) rfl rfl Tryd.underlying22 (.int .i64 0) 8 info3 rfl (by decide) (by omega) 0 (ok := fun _ => True) (okp := fun _ => True) rfl (fun _ hk => hk) trivial (of_decide_eq_true tA) (Nat.le_trans (Nat.mul_le_mul_right _ (of_decide_eq_true tA : (l0.length : Int).toNat ≤ 35184372088832)) (by omega)) (Below.refl _ _) (Nat.le_refl _) ?_; intro v102 w5 ho6 hb hg_ hnew_; clear hg_ hnew_; (first | rw [← Ny101.out] at ho6 | (simp only [Int.reduceToNat] at ho6; rw [← Ny101.out] at ho6)); have HO103 := Aside0.mk (Kd.R_lower ho6 (below_size tB)); replace HB := Aside0.mk (below_step tB hb); clear hb ho6))
      go_loopg [14] k (fun kq v14 w' => ∃ (x7_1 : List Int) (x14_1 : Int), v14 = .int .i64 x14_1 ∧ Aside0 (comb.l0 opSub kq l0 l1 x7_1 (l0.length : Int) x14_1 = some r) ∧ Aside0 (kq ≤ k) ∧ Aside0 (Kd.R (Kd.int .i64) 3 w' w.heap.size (fun _ => True) v102 x7_1) ∧ Aside0 (Below w.heap.size w w'))
      case atStart => exact ⟨(y101), (0), (by first | rfl | (simp; done) | (simp only [i64_w]; done) | (simp [*]; done)), H', ⟨Nat.le_refl _⟩, ⟨tR HO103.out⟩, ⟨tB⟩⟩
      case round =>
        clear H'
        try clear c1
        try clear p2
        try clear c3
        try clear c3b0
        try clear c3b1
        try clear c4
        try clear c4b0
        try clear c4b1
        obtain ⟨x7_1, x14_1, rfl, HA, HK1, HO_7, HB⟩ := hrel
        cases gk with
        | zero => exact absurd HA.out (by simp [comb.l0])
        | succ k1 =>
          have H := HA.out
          clear HA
          simp only [comb.l0] at H
          by_cases c7 : x14_1 < (l0.length : Int)
          · rw [if_pos c7] at H
            have c7b0 := decide_eq_true c7
            clear c7
            by_cases c8 : 0 ≤ x14_1
            · rw [if_pos c8] at H
              have c8b0 := decide_eq_true c8
              clear c8
              by_cases c9 : x14_1 < (l0.length : Int)
              · rw [if_pos c9] at H
                have c9b0 := decide_eq_true c9
                clear c9
                by_cases c10 : x14_1 < (l1.length : Int)
                · rw [if_pos c10] at H
                  have c10b0 := decide_eq_true c10
                  clear c10
                  replace H := Option.bind_eq_some_iff.mp H
                  obtain ⟨t106, A110, H⟩ := H
                  try dsimp only at H
                  have A11 := Aside0.mk A110
                  clear A110
                  by_cases c12 : x14_1 < (x7_1.length : Int)
                  · rw [if_pos c12] at H
                    have c12b0 := decide_eq_true c12
                    clear c12
                    obtain ⟨y107, hy107⟩ : ∃ y_ : List Int, y_ = (x7_1.set (x14_1 : Int).toNat t106) := ⟨_, rfl⟩
                    replace H : (comb.l0 opSub k1 l0 l1 y107 (l0.length : Int) (wrap64 (x14_1 + 1))) = some r := by first | (rw [hy107]; with_reducible exact H) | (have H2_ := (Option.bind_some _ _).symm.trans H; rw [hy107]; with_reducible exact H2_) | (have H2_ := (Option.bind_some _ _).symm.trans H; with_reducible exact H2_) | with_reducible exact H | (rw [hy107]; exact H) | exact H
                    have Ny107 := Aside0.mk hy107
                    clear hy107
                    have H' := Aside0.mk H
                    clear H
                    try go_wp2
                    replace HO_7 := Aside0.mk (Kd.R_drew HO_7.out)
                    replace HB := Aside0.mk (below_drew1 HB.out)
                    have p104 : 0 ≤ (x14_1 : Int) := of_decide_eq_true tA
                    have q104 : x14_1 < (l0.length : Int) := of_decide_eq_true tA
                    obtain ⟨ad104, e104, hx104_0⟩ := Kd.at_int HR0.out x14_1 p104 q104
                    have hw104_0 := hx104_0
                    cases e104
                    replace hx104_0 := (HB.out.cell (World.block_lt_of_cell? w _ hx104_0)).trans hx104_0
                    replace p104 := eq_true p104
                    replace q104 := eq_true q104
                    have p105 : 0 ≤ (x14_1 : Int) := of_decide_eq_true tA
                    have q105 : x14_1 < (l1.length : Int) := of_decide_eq_true tA
                    obtain ⟨ad105, e105, hx105_0⟩ := Kd.at_int HR1.out x14_1 p105 q105
                    have hw105_0 := hx105_0
                    cases e105
                    replace hx105_0 := (HB.out.cell (World.block_lt_of_cell? w _ hx105_0)).trans hx105_0
                    replace p105 := eq_true p105
                    replace q105 := eq_true q105
                    refine start_ (n := 14) (S := fun w' => w'.cell? (ad104.add (x14_1).toNat) = some (.int .i64 (rd l0 x14_1)) ∧ w'.cell? (ad105.add (x14_1).toNat) = some (.int .i64 (rd l1 x14_1))) (ds := [13]) (bm 0 14) (by kernel_rfl) rfl rfl ⟨((HB.out.cell (World.block_lt_of_cell? w _ hw104_0)).trans hw104_0), ((HB.out.cell (World.block_lt_of_cell? w _ hw105_0)).trans hw105_0)⟩ (fun hHeld => ?_); refine with_tabW comb.tab5 comb.bits5 (fun HT_ HW_ => ?_)
                    generalize wr.drew = w14 at HO_7 HB hx104_0 hx105_0 hHeld ⊢
                    refine pI 0 (some 17) (bm 1 14) HT_.out ?_
                    refine pI 1 (some 18) (bm 2 14) HT_.out ?_
                    refine pI 2 (some 19) (bm 3 14) HT_.out ?_
                    refine pI 3 (some 20) (bm 4 14) HT_.out ?_
                    refine pI 4 (some 21) (bm 5 14) HT_.out ?_
                    refine pI 5 (some 22) (bm 6 14) HT_.out ?_
                    refine pI 7 (some 24) (bq 191 14) HT_.out ?_
                    refine pI 8 (some 25) (bq 447 14) HT_.out ?_
                    refine pI 9 (some 26) (bq 959 14) HT_.out ?_
                    refine tk2 6 (some 23) (bm 10 14) HT_.out HW_.out hHeld ?_
                    refine tk2 10 (some 27) (bm 11 14) HT_.out HW_.out hHeld ?_
                    refine one_ (i := 11) (N := some 28) (bm 12 14) rfl rfl (one_of HT_.out (by kernel_rfl)) (by decide) (fun K hK => ?_)
                    refine goesV_ Tryd.func151 (by kernel_rfl) rfl #[.int .i64 (rd l0 x14_1), .int .i64 (rd l1 x14_1)] (by rfl) rfl rfl (by rfl) tL ?_
                    with_reducible refine (clo151.calls (rd l0 x14_1) (rd l1 x14_1) t106 _ A11.out).mono ?_
                    rintro e w' ⟨rfl, ⟨nd, rfl⟩⟩
                    refine ⟨_, rfl, ?_⟩
                    have p13 : 0 ≤ (x14_1 : Int) := of_decide_eq_true tA
                    have q13 : (x14_1 : Int) < ((x7_1.length : Int) : Int) := of_decide_eq_true tA
                    obtain ⟨go13, co13, eo13, gb13, gl13, cl13, HG13⟩ := Kd.R_form HO_7.out (by omega)
                    (first | cases eo13 | (injection eo13 with ea_ en_ ec_; (first | subst ea_ | (injection ea_ with ea_; subst ea_)); subst ec_; clear en_))
                    have GB13 := Aside0.mk gb13
                    have GG13 := Aside0.mk HG13
                    clear gb13 gl13 HG13
                    obtain ⟨hx13_0, hf13_0⟩ := Kd.R_celln 0 HO_7.out (x14_1 : Int) p13 q13
                    replace p13 := eq_true p13
                    replace q13 := eq_true q13
                    have HP15 := Kd.R_putn HO_7.out (x14_1 : Int) t106
                    rw [← Ny107.out] at HP15
                    have HQ15 := Aside0.mk HP15
                    clear HP15
                    refine hK.out _ _ ⟨((HB.out.cell (World.block_lt_of_cell? w _ hw104_0)).trans hw104_0), ((HB.out.cell (World.block_lt_of_cell? w _ hw105_0)).trans hw105_0)⟩ (fun hHeld => ?_)
                    clear hK K
                    refine nm ?_
                    refine pI 12 (some 29) (bm 13 14) HT_.out ?_
                    refine last_ (i := 13) (N := none) (bm 14 14) rfl rfl (one_of HT_.out (by kernel_rfl)) (by decide) (fun K hK => ?_)
                    refine skip_ (w1 := ?_) (by rfl) rfl ?_ ?_
                    rotate_left
                    · go_simp
                      rfl
                    refine hK.out _ _ ?_
                    clear hK K
                    refine done_ (done_of HT_.out (by kernel_rfl)) ?_
                    try go_wp2
                    go_roundg k1
                    case measure => have := HK1.out; omega
                    case rel => exact ⟨(y107), (wrap64 (x14_1 + 1)), (by first | rfl | (simp; done) | (simp only [i64_w]; done) | (simp [*]; done)), H', ⟨by have := HK1.out; omega⟩, ⟨tR HQ15.out⟩, ⟨by repeat (first | (with_reducible first | exact HB.out | apply below_alloc | apply pw_below_drewN | apply below_drew1 | refine below_set ?_ GB13.out) | exact HB.out)⟩⟩
                  · rw [if_neg c12] at H
                    exact absurd H (by simp)
                · rw [if_neg c10] at H
                  exact absurd H (by simp)
              · rw [if_neg c9] at H
                exact absurd H (by simp)
            · rw [if_neg c8] at H
              exact absurd H (by simp)
          · rw [if_neg c7] at H
            have c7b0 := decide_eq_false c7
            clear c7
            obtain rfl := Option.some.inj H
            go_wp2
            go_ret
            exact ⟨_, by first | rfl | (simp [errW_none, errW_some] <;> rfl) | (simp [*, errW_none, errW_some] <;> rfl), tR HO_7.out, tB⟩
    · rw [if_neg c4] at H
      exact absurd H (by simp)
  · rw [if_neg c3] at H
    exact absurd H (by simp)

theorem combined_151.calls0 (A0 : Option Addr) (c0 : Nat) (l0 : List Int) (A1 : Option Addr) (c1 : Nat) (l1 : List Int) (r : List Int) (w : World) (hr0 : Kd.C (Kd.int .i64) w A0 l0.length l0) (hc0 : l0.length ≤ c0) (hr1 : Kd.C (Kd.int .i64) w A1 l1.length l1) (hc1 : l1.length ≤ c1) (h : (if l0.length ≤ l1.length ∧ l0.length < 17592186044416 then some (List.zipWith opSub l0 l1) else none) = some r) :
    Calls Tryd.prog 148 #[.slice A0 l0.length c0, .slice A1 l1.length c1, .func (.func 151) #[] #[]] w fun e w' => ∃ v0_ : Value, e = .returned (v0_) ∧ Kd.R (Kd.int .i64) 3 w' w.heap.size (fun _ => True) v0_ r ∧ Below w.heap.size w w' := by
  by_cases hl : l0.length ≤ l1.length ∧ l0.length < 17592186044416
  · rw [if_pos hl] at h
    obtain rfl := Option.some.inj h
    exact comb151.calls (l0.length + 1) A0 c0 l0 A1 c1 l1 _ w hr0 hc0 hr1 hc1 (comb_is opSub l0 l1 hl.1 hl.2)
  · rw [if_neg hl] at h
    exact absurd h (by simp)
def combined_151.f (l0 l1 : List Int) : Option (List Int) := if l0.length ≤ l1.length ∧ l0.length < 17592186044416 then some (List.zipWith opSub l0 l1) else none
theorem combined_151.calls (A0 : Option Addr) (c0 : Nat) (l0 : List Int) (A1 : Option Addr) (c1 : Nat) (l1 : List Int) (r : List Int) (w : World) (hr0 : Kd.C (Kd.int .i64) w A0 l0.length l0) (hc0 : l0.length ≤ c0) (hr1 : Kd.C (Kd.int .i64) w A1 l1.length l1) (hc1 : l1.length ≤ c1) (h : combined_151.f l0 l1 = some r) :
    Calls Tryd.prog 148 #[.slice A0 l0.length c0, .slice A1 l1.length c1, .func (.func 151) #[] #[]] w fun e w' => ∃ v0_ : Value, e = .returned (v0_) ∧ Kd.R (Kd.int .i64) 3 w' w.heap.size (fun _ => True) v0_ r ∧ Below w.heap.size w w' :=
  combined_151.calls0 A0 c0 l0 A1 c1 l1 r w hr0 hc0 hr1 hc1 h
set_option maxHeartbeats 4000000 in
theorem clo165.calls (a b t : Int) (w : World) (h : clo opAdd a b = some t) : Calls Tryd.prog 165 #[.int .i64 a, .int .i64 b] w fun e w' => e = .returned (.int .i64 t) ∧ Drawn0 w w' := by
  obtain rfl := Option.some.inj h
  unfold opAdd
  clear h
  go_enter Tryd.func165, Tryd.ntmps165
  go_wp2
  go_ret
  exact ⟨rfl, Drawn0.refl _⟩
set_option maxHeartbeats 8000000 in
set_option maxRecDepth 100000 in
theorem comb165.calls (k : Nat) (A0 : Option Addr) (c0 : Nat) (l0 : List Int) (A1 : Option Addr) (c1 : Nat) (l1 : List Int) (r : List Int) (w : World) (hr0 : Kd.C (Kd.int .i64) w A0 l0.length l0) (hc0 : l0.length ≤ c0) (hr1 : Kd.C (Kd.int .i64) w A1 l1.length l1) (hc1 : l1.length ≤ c1) (h : comb.f opAdd k l0 l1 = some r) :
    Calls Tryd.prog 148 #[.slice A0 l0.length c0, .slice A1 l1.length c1, .func (.func 165) #[] #[]] w fun e w' => ∃ v0_ : Value, e = .returned (v0_) ∧ Kd.R (Kd.int .i64) 3 w' w.heap.size (fun _ => True) v0_ r ∧ Below w.heap.size w w' := by
  have HR0 := Aside0.mk hr0
  have HC0 := Aside0.mk hc0
  clear hr0 hc0
  have HR1 := Aside0.mk hr1
  have HC1 := Aside0.mk hc1
  clear hr1 hc1
  have HB := Aside0.mk (Below.refl w.heap.size w)
  have H : (if 0 ≤ (l0.length : Int) then (if ((l0.length : Int) : Int).toNat ≤ 35184372088832 then (comb.l0 opAdd k l0 l1 (List.replicate ((l0.length : Int) : Int).toNat 0) (l0.length : Int) 0) else (none)) else (none)) = some r := h
  clear h
  by_cases c3 : 0 ≤ (l0.length : Int)
  · rw [if_pos c3] at H
    have c3b0 := eq_true c3
    have c3b1 := decide_eq_true c3
    clear c3
    by_cases c4 : ((l0.length : Int) : Int).toNat ≤ 35184372088832
    · rw [if_pos c4] at H
      have c4b0 := eq_true c4
      have c4b1 := decide_eq_true c4
      clear c4
      obtain ⟨y101, hy101⟩ : ∃ y_ : List Int, y_ = (List.replicate ((l0.length : Int) : Int).toNat 0) := ⟨_, rfl⟩
      replace H : (comb.l0 opAdd k l0 l1 y101 (l0.length : Int) 0) = some r := by first | (rw [hy101]; with_reducible exact H) | (have H2_ := (Option.bind_some _ _).symm.trans H; rw [hy101]; with_reducible exact H2_) | (have H2_ := (Option.bind_some _ _).symm.trans H; with_reducible exact H2_) | with_reducible exact H | (rw [hy101]; exact H) | exact H
      have Ny101 := Aside0.mk hy101
      clear hy101
      have H' := Aside0.mk H
      clear H
      go_enter Tryd.func148, Tryd.ntmps148
      go_wp2_with (first | ((with_reducible refine gate_dst (N := 11) rfl ?_); refine Kd.R_make (Kd.int .i64) _ 3 rfl (N := 11) rfl 22 _ _ rfl (l0.length : Int) rfl rfl Tryd.underlying22 (.int .i64 0) 8 info3 rfl (by decide) (by omega) 0 (ok := fun _ => True) (okp := fun _ => True) rfl (fun _ hk => hk) trivial (of_decide_eq_true tA) (Nat.le_trans (Nat.mul_le_mul_right _ (of_decide_eq_true tA : (l0.length : Int).toNat ≤ 35184372088832)) (by omega)) (Below.refl _ _) (Nat.le_refl _) ?_; intro v102 w5 ho6 hb hg_ hnew_; clear hg_ hnew_; (first | rw [← Ny101.out] at ho6 | (simp only [Int.reduceToNat] at ho6; rw [← Ny101.out] at ho6)); have HO103 := Aside0.mk (Kd.R_lower ho6 (below_size tB)); replace HB := Aside0.mk (below_step tB hb); clear hb ho6))
      go_loopg [14] k (fun kq v14 w' => ∃ (x7_1 : List Int) (x14_1 : Int), v14 = .int .i64 x14_1 ∧ Aside0 (comb.l0 opAdd kq l0 l1 x7_1 (l0.length : Int) x14_1 = some r) ∧ Aside0 (kq ≤ k) ∧ Aside0 (Kd.R (Kd.int .i64) 3 w' w.heap.size (fun _ => True) v102 x7_1) ∧ Aside0 (Below w.heap.size w w'))
      case atStart => exact ⟨(y101), (0), (by first | rfl | (simp; done) | (simp only [i64_w]; done) | (simp [*]; done)), H', ⟨Nat.le_refl _⟩, ⟨tR HO103.out⟩, ⟨tB⟩⟩
      case round =>
        clear H'
        try clear c1
        try clear p2
        try clear c3
        try clear c3b0
        try clear c3b1
        try clear c4
        try clear c4b0
        try clear c4b1
        obtain ⟨x7_1, x14_1, rfl, HA, HK1, HO_7, HB⟩ := hrel
        cases gk with
        | zero => exact absurd HA.out (by simp [comb.l0])
        | succ k1 =>
          have H := HA.out
          clear HA
          simp only [comb.l0] at H
          by_cases c7 : x14_1 < (l0.length : Int)
          · rw [if_pos c7] at H
            have c7b0 := decide_eq_true c7
            clear c7
            by_cases c8 : 0 ≤ x14_1
            · rw [if_pos c8] at H
              have c8b0 := decide_eq_true c8
              clear c8
              by_cases c9 : x14_1 < (l0.length : Int)
              · rw [if_pos c9] at H
                have c9b0 := decide_eq_true c9
                clear c9
                by_cases c10 : x14_1 < (l1.length : Int)
                · rw [if_pos c10] at H
                  have c10b0 := decide_eq_true c10
                  clear c10
                  replace H := Option.bind_eq_some_iff.mp H
                  obtain ⟨t106, A110, H⟩ := H
                  try dsimp only at H
                  have A11 := Aside0.mk A110
                  clear A110
                  by_cases c12 : x14_1 < (x7_1.length : Int)
                  · rw [if_pos c12] at H
                    have c12b0 := decide_eq_true c12
                    clear c12
                    obtain ⟨y107, hy107⟩ : ∃ y_ : List Int, y_ = (x7_1.set (x14_1 : Int).toNat t106) := ⟨_, rfl⟩
                    replace H : (comb.l0 opAdd k1 l0 l1 y107 (l0.length : Int) (wrap64 (x14_1 + 1))) = some r := by first | (rw [hy107]; with_reducible exact H) | (have H2_ := (Option.bind_some _ _).symm.trans H; rw [hy107]; with_reducible exact H2_) | (have H2_ := (Option.bind_some _ _).symm.trans H; with_reducible exact H2_) | with_reducible exact H | (rw [hy107]; exact H) | exact H
                    have Ny107 := Aside0.mk hy107
                    clear hy107
                    have H' := Aside0.mk H
                    clear H
                    try go_wp2
                    replace HO_7 := Aside0.mk (Kd.R_drew HO_7.out)
                    replace HB := Aside0.mk (below_drew1 HB.out)
                    have p104 : 0 ≤ (x14_1 : Int) := of_decide_eq_true tA
                    have q104 : x14_1 < (l0.length : Int) := of_decide_eq_true tA
                    obtain ⟨ad104, e104, hx104_0⟩ := Kd.at_int HR0.out x14_1 p104 q104
                    have hw104_0 := hx104_0
                    cases e104
                    replace hx104_0 := (HB.out.cell (World.block_lt_of_cell? w _ hx104_0)).trans hx104_0
                    replace p104 := eq_true p104
                    replace q104 := eq_true q104
                    have p105 : 0 ≤ (x14_1 : Int) := of_decide_eq_true tA
                    have q105 : x14_1 < (l1.length : Int) := of_decide_eq_true tA
                    obtain ⟨ad105, e105, hx105_0⟩ := Kd.at_int HR1.out x14_1 p105 q105
                    have hw105_0 := hx105_0
                    cases e105
                    replace hx105_0 := (HB.out.cell (World.block_lt_of_cell? w _ hx105_0)).trans hx105_0
                    replace p105 := eq_true p105
                    replace q105 := eq_true q105
                    refine start_ (n := 14) (S := fun w' => w'.cell? (ad104.add (x14_1).toNat) = some (.int .i64 (rd l0 x14_1)) ∧ w'.cell? (ad105.add (x14_1).toNat) = some (.int .i64 (rd l1 x14_1))) (ds := [13]) (bm 0 14) (by kernel_rfl) rfl rfl ⟨((HB.out.cell (World.block_lt_of_cell? w _ hw104_0)).trans hw104_0), ((HB.out.cell (World.block_lt_of_cell? w _ hw105_0)).trans hw105_0)⟩ (fun hHeld => ?_); refine with_tabW comb.tab5 comb.bits5 (fun HT_ HW_ => ?_)
                    generalize wr.drew = w14 at HO_7 HB hx104_0 hx105_0 hHeld ⊢
                    refine pI 0 (some 17) (bm 1 14) HT_.out ?_
                    refine pI 1 (some 18) (bm 2 14) HT_.out ?_
                    refine pI 2 (some 19) (bm 3 14) HT_.out ?_
                    refine pI 3 (some 20) (bm 4 14) HT_.out ?_
                    refine pI 4 (some 21) (bm 5 14) HT_.out ?_
                    refine pI 5 (some 22) (bm 6 14) HT_.out ?_
                    refine pI 7 (some 24) (bq 191 14) HT_.out ?_
                    refine pI 8 (some 25) (bq 447 14) HT_.out ?_
                    refine pI 9 (some 26) (bq 959 14) HT_.out ?_
                    refine tk2 6 (some 23) (bm 10 14) HT_.out HW_.out hHeld ?_
                    refine tk2 10 (some 27) (bm 11 14) HT_.out HW_.out hHeld ?_
                    refine one_ (i := 11) (N := some 28) (bm 12 14) rfl rfl (one_of HT_.out (by kernel_rfl)) (by decide) (fun K hK => ?_)
                    refine goesV_ Tryd.func165 (by kernel_rfl) rfl #[.int .i64 (rd l0 x14_1), .int .i64 (rd l1 x14_1)] (by rfl) rfl rfl (by rfl) tL ?_
                    with_reducible refine (clo165.calls (rd l0 x14_1) (rd l1 x14_1) t106 _ A11.out).mono ?_
                    rintro e w' ⟨rfl, ⟨nd, rfl⟩⟩
                    refine ⟨_, rfl, ?_⟩
                    have p13 : 0 ≤ (x14_1 : Int) := of_decide_eq_true tA
                    have q13 : (x14_1 : Int) < ((x7_1.length : Int) : Int) := of_decide_eq_true tA
                    obtain ⟨go13, co13, eo13, gb13, gl13, cl13, HG13⟩ := Kd.R_form HO_7.out (by omega)
                    (first | cases eo13 | (injection eo13 with ea_ en_ ec_; (first | subst ea_ | (injection ea_ with ea_; subst ea_)); subst ec_; clear en_))
                    have GB13 := Aside0.mk gb13
                    have GG13 := Aside0.mk HG13
                    clear gb13 gl13 HG13
                    obtain ⟨hx13_0, hf13_0⟩ := Kd.R_celln 0 HO_7.out (x14_1 : Int) p13 q13
                    replace p13 := eq_true p13
                    replace q13 := eq_true q13
                    have HP15 := Kd.R_putn HO_7.out (x14_1 : Int) t106
                    rw [← Ny107.out] at HP15
                    have HQ15 := Aside0.mk HP15
                    clear HP15
                    refine hK.out _ _ ⟨((HB.out.cell (World.block_lt_of_cell? w _ hw104_0)).trans hw104_0), ((HB.out.cell (World.block_lt_of_cell? w _ hw105_0)).trans hw105_0)⟩ (fun hHeld => ?_)
                    clear hK K
                    refine nm ?_
                    refine pI 12 (some 29) (bm 13 14) HT_.out ?_
                    refine last_ (i := 13) (N := none) (bm 14 14) rfl rfl (one_of HT_.out (by kernel_rfl)) (by decide) (fun K hK => ?_)
                    refine skip_ (w1 := ?_) (by rfl) rfl ?_ ?_
                    rotate_left
                    · go_simp
                      rfl
                    refine hK.out _ _ ?_
                    clear hK K
                    refine done_ (done_of HT_.out (by kernel_rfl)) ?_
                    try go_wp2
                    go_roundg k1
                    case measure => have := HK1.out; omega
                    case rel => exact ⟨(y107), (wrap64 (x14_1 + 1)), (by first | rfl | (simp; done) | (simp only [i64_w]; done) | (simp [*]; done)), H', ⟨by have := HK1.out; omega⟩, ⟨tR HQ15.out⟩, ⟨by repeat (first | (with_reducible first | exact HB.out | apply below_alloc | apply pw_below_drewN | apply below_drew1 | refine below_set ?_ GB13.out) | exact HB.out)⟩⟩
                  · rw [if_neg c12] at H
                    exact absurd H (by simp)
                · rw [if_neg c10] at H
                  exact absurd H (by simp)
              · rw [if_neg c9] at H
                exact absurd H (by simp)
            · rw [if_neg c8] at H
              exact absurd H (by simp)
          · rw [if_neg c7] at H
            have c7b0 := decide_eq_false c7
            clear c7
            obtain rfl := Option.some.inj H
            go_wp2
            go_ret
            exact ⟨_, by first | rfl | (simp [errW_none, errW_some] <;> rfl) | (simp [*, errW_none, errW_some] <;> rfl), tR HO_7.out, tB⟩
    · rw [if_neg c4] at H
      exact absurd H (by simp)
  · rw [if_neg c3] at H
    exact absurd H (by simp)

theorem combined_165.calls0 (A0 : Option Addr) (c0 : Nat) (l0 : List Int) (A1 : Option Addr) (c1 : Nat) (l1 : List Int) (r : List Int) (w : World) (hr0 : Kd.C (Kd.int .i64) w A0 l0.length l0) (hc0 : l0.length ≤ c0) (hr1 : Kd.C (Kd.int .i64) w A1 l1.length l1) (hc1 : l1.length ≤ c1) (h : (if l0.length ≤ l1.length ∧ l0.length < 17592186044416 then some (List.zipWith opAdd l0 l1) else none) = some r) :
    Calls Tryd.prog 148 #[.slice A0 l0.length c0, .slice A1 l1.length c1, .func (.func 165) #[] #[]] w fun e w' => ∃ v0_ : Value, e = .returned (v0_) ∧ Kd.R (Kd.int .i64) 3 w' w.heap.size (fun _ => True) v0_ r ∧ Below w.heap.size w w' := by
  by_cases hl : l0.length ≤ l1.length ∧ l0.length < 17592186044416
  · rw [if_pos hl] at h
    obtain rfl := Option.some.inj h
    exact comb165.calls (l0.length + 1) A0 c0 l0 A1 c1 l1 _ w hr0 hc0 hr1 hc1 (comb_is opAdd l0 l1 hl.1 hl.2)
  · rw [if_neg hl] at h
    exact absurd h (by simp)
def combined_165.f (l0 l1 : List Int) : Option (List Int) := if l0.length ≤ l1.length ∧ l0.length < 17592186044416 then some (List.zipWith opAdd l0 l1) else none
theorem combined_165.calls (A0 : Option Addr) (c0 : Nat) (l0 : List Int) (A1 : Option Addr) (c1 : Nat) (l1 : List Int) (r : List Int) (w : World) (hr0 : Kd.C (Kd.int .i64) w A0 l0.length l0) (hc0 : l0.length ≤ c0) (hr1 : Kd.C (Kd.int .i64) w A1 l1.length l1) (hc1 : l1.length ≤ c1) (h : combined_165.f l0 l1 = some r) :
    Calls Tryd.prog 148 #[.slice A0 l0.length c0, .slice A1 l1.length c1, .func (.func 165) #[] #[]] w fun e w' => ∃ v0_ : Value, e = .returned (v0_) ∧ Kd.R (Kd.int .i64) 3 w' w.heap.size (fun _ => True) v0_ r ∧ Below w.heap.size w w' :=
  combined_165.calls0 A0 c0 l0 A1 c1 l1 r w hr0 hc0 hr1 hc1 h
end Go.Proofs.YtdlbmbijobcljaaDoor.X
