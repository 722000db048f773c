/- Merged by a program of this session's own (wip/print/merge.py): HJoinedD, HLaid. No law stands here; conditions: none. -/
import Derived.Test.YtdlbmbijobcljaaDoorHJoined
import Derived.Test.YtdlbmbijobcljaaDoorHJoinedB
import Derived.Test.YtdlbmbijobcljaaDoorHJoinedC
import Derived.Test.YtdlbmbijobcljaaDoorRows
import Derived.Test.YtdlbmbijobcljaaDoorMA
import Derived.ProofKit
import Derived.LaidMore
import Derived.OpenShut
import Derived.Stop.Joined
namespace Go.Proofs.YtdlbmbijobcljaaDoor
open Go
set_option maxRecDepth 100000 in
theorem joined_of {f : FuncId} {fn : Func} {s : ChangeSpec} {c : OpenClaim} (hl : c.lifted = Rows.featureInversesRow.lifted) (hm : c.make = Rows.featureInversesRow.make) (hp : c.plainKeys = Rows.featureInversesRow.plainKeys)
    (h1 : c.wf (OpenSpec.ofChange s) = true) (h2 : fn.params.all (Tryd.prog.readableRec ·) = true) (h3 : namedTie Tryd.prog c.named s.vars = true) (h4 : (c.stops == []) = true) (h5 : (c.knobs == []) = true)
    (h6 : (c.inPlace == Tryd.prog.inPlace f) = true) (h7 : (c.unfollowed == Tryd.prog.unfollowed f) = true) (h8 : (c.recurses == Tryd.prog.recurses f) = true) (h9 : (c.named == Tryd.prog.varsNamed f) = true)
    (h10 : (c.maps == (fn.params.toList ++ s.plain.varTypes Tryd.prog).any (Tryd.prog.mapsRec ·)) = true) (h11 : (c.ifaces == (fn.params.toList ++ s.plain.varTypes Tryd.prog).any (Tryd.prog.ifacesRec ·)) = true) (h12 : (c.mapsOut == Tryd.prog.mapsAmong fn.resultTypes.toList) = true)
    (h13 : (c.loops == (fn.params.toList ++ s.plain.varTypes Tryd.prog).any (Tryd.prog.loopsFrom ·)) = true) (h14 : (c.wideKeys == (fn.params.toList ++ s.plain.varTypes Tryd.prog ++ fn.resultTypes.toList).any (Tryd.prog.wideKeysFrom ·)) = true)
    (h15 : s.vars.all (Tryd.prog.varReadable ·) = true) (h16 : fn.resultTypes.all (fun t => Tryd.prog.readableRec t && decide (t < Tryd.prog.types.size)) = true) (h17 : (c.ifacesOut == fn.resultTypes.toList.any (Tryd.prog.ifacesRec ·)) = true) (h18 : (c.loopsOut == fn.resultTypes.toList.any (Tryd.prog.loopsFrom ·)) = true)
    (h19 : c.shortTexts.isNone = true) (h20 : (c.kinds == (if c.domain.isEmpty then [] else fn.params.toList.map fun t => match Tryd.prog.underlying t with | some (.int k) => some k | _ => none)) = true) (h21 : (c.pinned == c.pinnedBy) = true)
    (h22 : (c.veiled == (fn.params.toList ++ s.plain.varTypes Tryd.prog ++ fn.resultTypes.toList).any (Tryd.prog.veiledRec ·)) = true) (h23 : c.veiledFits Tryd.prog fn.params.toList (fn.params.toList ++ s.plain.varTypes Tryd.prog ++ fn.resultTypes.toList) = true) :
    joinedFacts Tryd.prog f fn s c = true := by
  have a1 := jLifts
  rw [← hl] at a1
  have a2 := jMake
  rw [← hm] at a2
  have a3 := jPlain
  rw [← hp] at a3
  have a4 := jMay
  have a5 := jLaid
  have a6 := jRowed
  have a7 := jHeard
  have a8 := jStops
  have a9 := jKnobs
  unfold joinedFacts
  simp only [Bool.and_eq_true]
  repeat' apply And.intro
  all_goals first | (with_reducible assumption) | exact h20
end Go.Proofs.YtdlbmbijobcljaaDoor

namespace Go.Proofs.YtdlbmbijobcljaaDoor
open Go Go.ChangeShapes Go.WideShapes Go.ChangeAt Go.RowKit Go.Proofs.YtdlbmbijobcljaaDoorW.PrintWords
theorem gCos : Tryd.prog.globalNamed "earshot/api.Cosines" = some 0 := by kernel_rfl
theorem tCos : (Tryd.prog.globals[0]?).map (·.type) = some 126 := by kernel_rfl
theorem uCos : Tryd.prog.underlying 126 = some (.array 65 3) := by kernel_rfl
theorem cCos : Tryd.prog.cellsOf 3 = 1 := by kernel_rfl
theorem cCos' : Tryd.prog.cellsOf 126 = 65 := by kernel_rfl
/-- What is laid. -/
abbrev laidC : List (String × DataW Unit) := [("earshot/api.Cosines", Rows.laid_earshot_api_Cosines)]
theorem laid_eq : (Rows.laid_earshot_api_Cosines : DataW Unit) = .agg (X.tabL.map fun n => .lit (.int .i64 n)) := rfl
/-- What the condition gives the walks: the table of cosines. -/
theorem tab_of_laid {W : World} (h : laidMetH Tryd.prog laidC W) : Kd.C (Kd.int .i64) W (some ⟨0, 0, none⟩) 65 X.tabL := by
  rw [MakeChecks.laidMetH_plain _ _ _ (by kernel_rfl)] at h
  obtain ⟨ps, ⟨g0, t0, cs0, f0, p0, q0, hg0, ht0, hv0, hd0, _, _⟩, _, _⟩ := h
  obtain rfl := Option.some.inj (gCos.symm.trans hg0)
  obtain rfl := Option.some.inj (tCos.symm.trans ht0)
  obtain ⟨xs, m1, rfl, hx1, hlen, hn3, hel⟩ := DataW.trod_array uCos hd0
  rw [cCos'] at hlen
  have hx2 : X.tabL.map (fun n => (DataW.lit (.int .i64 n) : DataW Unit)) = xs.map (·.1) := by
    rw [laid_eq] at hx1
    simp only [Prod.mk.injEq, DataW.agg.injEq] at hx1
    exact hx1.1
  refine ⟨rfl, by decide, fun _ => ⟨_, rfl, fun j p hj => ?_⟩⟩
  have hj65 : j < 65 := by
    have := (List.getElem?_eq_some_iff.1 hj).1
    exact this
  have h0 := hel j hj65
  rw [cCos] at h0
  have hxj : xs[j]? = some (xs[j]'(by omega)) := List.getElem?_eq_getElem _
  rw [hxj] at h0
  obtain ⟨k, e1, e2, _⟩ := DataW.trod_int Tryd.underlying3 h0
  have hk : k = p := by
    have h1 : (xs.map (·.1))[j]? = some (.lit (.int .i64 k)) := by
      rw [List.getElem?_map, hxj, e2]; rfl
    rw [← hx2, List.getElem?_map, hj] at h1
    simpa using h1.symm
  subst hk
  refine ⟨[.int .i64 k], rfl, rfl, fun i u hu => ?_⟩
  have hi : i = 0 := by
    have := (List.getElem?_eq_some_iff.1 hu).1
    simp at this
    exact this
  subst hi
  have hu2 : u = .int .i64 k := by simpa using hu.symm
  subst hu2
  have h3 := World.var?_cell gCos hv0 j
  have hz : (Kd.int .i64).sz = 1 := rfl
  have hc : cs0[j]? = some (.int .i64 k) := by
    have e3 := congrArg (fun l => l[0]?) e1
    simp only [List.getElem?_take, List.getElem?_drop, Nat.mul_one, Nat.add_zero] at e3
    simpa using e3
  rw [hc] at h3
  rw [hz, add_at, Nat.zero_add, Nat.mul_one, Nat.add_zero]
  exact h3
/-- The door's own heap meets the condition. -/
theorem door_met (os : Os) (args : Array Value) : laidMetH Tryd.prog laidC ((World.doorLaid Tryd.prog 4000 os).forCall (fun _ _ => 0) ⟨#[], args, []⟩).memory :=
  laidMetH_of_parts3 (fuel := 8) (laidMet_of_run' 8 (by kernel_rfl) (by kernel_rfl)) (by kernel_rfl) (by kernel_rfl)
end Go.Proofs.YtdlbmbijobcljaaDoor
