/-
  The card of FlowNil: for every start that lets the listed tables lie as the program's text lays them, the call returns true, and nothing that was there is touched.
  No condition of its own. The walk: a run by the kernel of an evaluator that is proved sound against the model for every tape.
-/
import Derived.Test.YtbcnedhhebjhdaaGreatDoorK3
import Derived.Test.YtbcnedhhebjhdaaGreatDoorCards
import Derived.Test.YtbcnedhhebjhdaaGreatDoorTie
import Derived.WalkKit
import Derived.ProofKit
import Derived.OpenShut
import Derived.Deep.DeepHandedRow
import Derived.Lib.LaidTab
namespace Go.Proofs.YtbcnedhhebjhdaaGreatDoor.fnNil
open Go.ChangeShapes Go.WideShapes Go.ChangeAt Go.RowKit
set_option maxRecDepth 1000000

theorem own : ownKnob Tryz.prog.godebug = none := by kernel_rfl

/-- What the row's list gives: the table's cells. -/
theorem table {W : World} (h : laidMetH Tryz.prog Rows.flowNilRow.laid W) : ∃ arr, W.var? Tryz.prog "warder/types.rows" = some arr ∧ arr.toList = Fa.rows0.map (Fa.g Fa.idEnv) := by
  have h1 := laidMetH.filter (fun x => x.1 == "warder/types.rows") h
  have h2 : laidMet Tryz.prog [("warder/types.rows", Fa.tableDatum)] W := h1
  obtain ⟨ps, ⟨g, t, cs, fuel, p, q, hg, ht, hvar, hd, _, _⟩, _⟩ := h2
  have hg0 := Option.some.inj (Fa.rowsName.symm.trans hg)
  subst hg0
  have ht0 := Option.some.inj (Fa.rowsType.symm.trans ht)
  subst ht0
  exact ⟨cs, hvar, Fa.table_cells hd _⟩

theorem contract (H : Type) (enc : TypeId × Value → H) (W : World) (args : Array Value) (ds gs : List (DataW H)) (before : List MemPlace)
    (hW : DataW.Whole enc Tryz.prog Tryz.f3.params.toList Rows.flowNilSpec.vars false W args.toList ds gs before) (hL : laidMetH Tryz.prog Rows.flowNilRow.laid W) :
    Calls Tryz.prog 3 args W fun e W' => ∃ v, e = .returned v ∧ Rows.flowNilSpec.post enc Tryz.prog Tryz.f3 false true false false W args v W' := by
  have hW' := hW
  obtain ⟨p, q, hA0, hV, rfl, hfz, hnd⟩ := hW
  have hA : DataW.TrodAll enc Tryz.prog W 0 (fun _ => true) true Tryz.f3.params.toList args.toList ds p := hA0
  rw [Tryz.params3] at hA
  obtain ⟨hargs, rfl, rfl⟩ := trodAll_nil hA
  obtain rfl : args = #[] := by cases args; simp_all
  obtain ⟨rfl, rfl⟩ := trodVars_none hV
  clear hA0
  obtain ⟨arr, h1, h2⟩ := table hL
  refine (Fa.nil_calls h1 h2).mono fun e W' ⟨he, hk⟩ => ?_
  subst he
  exact ⟨_, rfl, Fa.post_of_none hW' (fun _ _ _ => trodAll_cons_mk (shut_bool Tryz.underlying4 _) trodAll_mk0) (fun _ => trodAll_mk0) (fun _ => rfl) hk⟩

end Go.Proofs.YtbcnedhhebjhdaaGreatDoor.fnNil
