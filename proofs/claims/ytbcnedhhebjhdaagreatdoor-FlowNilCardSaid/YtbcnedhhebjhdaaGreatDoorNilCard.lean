/-
  The card of FlowNil: for every start that lets the listed tables lie as the program's text lays them, the call returns true, and nothing that was there is touched.
  No condition of its own: what the row names (the tables' cells) is laid by the program's text.
-/
import Derived.Test.YtbcnedhhebjhdaaGreatDoorNilRow2
namespace Go.Proofs.YtbcnedhhebjhdaaGreatDoor.fnNil
open Go.ChangeShapes Go.WideShapes Go.ChangeAt Go.RowKit
set_option maxRecDepth 1000000

theorem joined : joinedFacts Tryz.prog 3 Tryz.f3 (OpenSpec.ofChange Rows.flowNilSpec).bare Rows.flowNilRow = true :=
  Fa.joined_of (by kernel_rfl) facts.h2 facts.h3 (by kernel_rfl) (by kernel_rfl) (by kernel_rfl) (by kernel_rfl) (by kernel_rfl) (by kernel_rfl) facts.h10 facts.h11 facts.h12 facts.h13
    (by kernel_rfl) (by kernel_rfl) (by kernel_rfl) (by kernel_rfl) (by kernel_rfl) (by kernel_rfl) (by kernel_rfl) (by kernel_rfl) (by kernel_rfl) (by kernel_rfl) (by kernel_rfl) facts.h25 facts.h26
    (by kernel_rfl) (by kernel_rfl) (by kernel_rfl) (by kernel_rfl) (by kernel_rfl) (by kernel_rfl)

theorem said : Rows.FlowNilSaid :=
  OpenClaim.holds_of_cond 3 Tryz.f3 rfl rfl rfl rfl rfl rfl rfl ⟨rfl, rfl, rfl, rfl, rfl⟩ rfl rfl rfl rfl rfl (by kernel_rfl) Tryz.func3 joined
    (of_decide_eq_true (by kernel_rfl)) (by unfold Func.isWrapper; first | (rw [if_pos (by decide +kernel)]; kernel_rfl) | (rw [if_neg (by decide +kernel)]; exact ⟨rfl, rfl⟩))
    (fun os started H enc _ F => by rw [OpenClaim.pre_eq_preRow]; exact lifted os started H enc F)

/-- No parameter wants a stand-in; the program's own looks are off: what the card asks. -/
theorem plain (f : FuncId) (fn : Func) (hf : Tryz.pinned.checked.prog.funcNamed "warder/warderlaw28.FlowNil" = some f) (hfn : Tryz.pinned.checked.prog.funcs[f]? = some fn) :
    true = Tryz.pinned.checked.prog.looks [] ∧ ∀ (j : Nat) t, fn.params[j]? = some t → Tryz.pinned.checked.prog.wantsStandIn t = false := by
  obtain rfl : f = 3 := Option.some.inj ((show Tryz.prog.funcNamed "warder/warderlaw28.FlowNil" = some 3 by kernel_rfl).symm.trans hf) |>.symm
  obtain rfl : fn = Tryz.f3 := (Option.some.inj (Tryz.func3.symm.trans hfn)).symm
  refine ⟨by kernel_rfl, fun j t ht => ?_⟩
  rw [Tryz.params3] at ht
  cases ht

theorem goesBy_of {P : Program} {c : OpenClaim} {f : FuncId} (hs : c.start = .entering) (e : P.funcNamed c.func = some f) (h : P.goes f = false) : false = c.goesBy P := by
  unfold OpenClaim.goesBy Program.goesAt Program.goesFrom
  rw [e, hs]
  simp [h]
theorem goesBy0 : false = Rows.flowNilRow.goesBy Tryz.prog := goesBy_of rfl (by kernel_rfl) facts.goes
theorem goesBy : false = Rows.flowNilRow.goesBy Tryz.pinned.checked.prog := goesBy0

/-- The card. -/
theorem card : Rows.FlowNilCardSaid :=
  Claim7.holds_tied_plain_at .later [] _ _ _ _ said (fun _ h => by cases h) (by kernel_rfl) (fun _ h => by cases h) flowNil_row_tie rfl ⟨rfl, rfl⟩ (by kernel_rfl) rfl plain goesBy
end Go.Proofs.YtbcnedhhebjhdaaGreatDoor.fnNil
