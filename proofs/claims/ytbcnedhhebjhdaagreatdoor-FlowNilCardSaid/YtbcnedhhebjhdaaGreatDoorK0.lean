/-
  The program's tables for the evaluator. No condition.
-/
import Derived.Test.YtbcnedhhebjhdaaGreatDoorFa7
import Derived.Test.YtbcnedhhebjhdaaGreatDoorProg
import Derived.KernelRfl

/-
  The program's tables for the evaluator; where its two functions are cut.
-/
namespace Go.Proofs.YtbcnedhhebjhdaaGreatDoor.Fa
open Go.Proofs

noncomputable section
def rows0 : List AV := [.str [], .int .i64 0, .int .i64 0, .int .i64 0,
  .str [117, 115, 101, 114], .int .i64 1, .int .i64 128, .int .i64 3,
  .str [108, 111, 103, 111, 110], .int .i64 1, .int .i64 64, .int .i64 2,
  .str [98, 105, 103], .int .i64 1, .int .i64 256, .int .i64 3,
  .str [107, 101, 121, 114, 105, 110, 103], .int .i64 0, .int .i64 0, .int .i64 5]
def E0 : Env0 := envOf Tryz.prog
def funcOf (f : Nat) : Func := match E0.fn.find f with
  | some F => F
  | none => default
def bodyOf (f : Nat) : Code := match (funcOf f).body with
  | some c => c
  | none => .skip
def cxOf (call : CallF) (f nt mask : Nat) : Cx := { rx := { call := call, rd := false }, go := goN E0 nt mask { call := call, rd := false } f 9, fn := f }

/-- Behind known's first call of Readers. -/
def fl1 : List (Nat × AV) := [(0, .bool false), (2, .slc 62 0 3 (.exact 3)), (3, .ptr 304 0), (4, .nilSlc), (5, .int .i64 0)]
def hl1 : List (Nat × ABlk) := [(0, .ro rows0), (5, .cells [.int .i64 1, .int .i64 0, .int .i64 0, .int .i64 2, .int .i64 0, .int .i64 1] [] none false),
  (62, .cells [.int .i64 0, .int .u64 0, .str [17, 253, 255, 255, 255, 1], .int .i64 0, .int .u64 1, .str [1, 253, 255, 255, 255, 1, 1, 97, 1, 0, 120], .int .i64 1, .int .u64 0, .str [4, 2, 0, 0, 0]] [] none false),
  (304, .cells [.slc 5 0 2 (.exact 2), .int .i64 8, .int .i64 30, .int .i64 8, .int .u64 9, .int .u64 900, .slc 62 0 3 (.exact 3), .slc 303 0 120 (.grown 0)] [] none false)]
/-- Behind its second one. -/
def fl2 : List (Nat × AV) := [(0, .bool false), (4, .nilSlc), (5, .int .i64 0), (6, .slc 11844 0 1 (.grown 0)), (7, .int .i64 0)]
def hl2 : List (Nat × ABlk) := [(0, .ro rows0), (11844, .cells [.int .i64 1] [] (some (1, 1)) false)]

/-- Did a function come to true, with nothing left to recover? -/
def isTrue (r : Option (AEnd × St)) : Bool := match r with
  | some (.returned (.bool b), st) => andb b st.um.isNone
  | _ => false
end

theorem isTrue_eq {r : Option (AEnd × St)} (h : isTrue r = true) : ∃ st, r = some (.returned (.bool true), st) ∧ st.um = none := by
  unfold isTrue at h
  split at h
  · rename_i b st
    simp only [andb_eq, Bool.and_eq_true] at h
    refine ⟨st, by rw [h.1], ?_⟩
    cases hu : st.um with
    | none => rfl
    | some x => rw [hu] at h; cases h.2
  · cases h

theorem rows0_plain : ∀ c ∈ rows0, ∀ D ε, okv D ε c := by
  intro c hc D ε
  simp only [rows0, List.mem_cons, List.not_mem_nil, or_false] at hc
  rcases hc with h | h | h | h | h | h | h | h | h | h | h | h | h | h | h | h | h | h | h | h <;> subst h <;> simp [okv]

set_option maxRecDepth 1000000

theorem env0_ok : EnvOk Tryz.prog E0 := envOf_ok (by kernel_rfl) (by kernel_rfl)
theorem mixed : Tryz.prog.follows .mixedOrders = true := by kernel_rfl

theorem known_find : E0.fn.find 9 = some (funcOf 9) := by kernel_rfl
theorem known_body : (funcOf 9).body = some (bodyOf 9) := by kernel_rfl
theorem known_nt : (funcOf 9).ntmps = 68 := by kernel_rfl
theorem known_mask : maskOf (funcOf 9) (bodyOf 9) = 255 := by kernel_rfl

end Go.Proofs.YtbcnedhhebjhdaaGreatDoor.Fa
