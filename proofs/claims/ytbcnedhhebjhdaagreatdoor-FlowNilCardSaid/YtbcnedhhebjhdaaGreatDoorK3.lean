/-
  known and FlowNil come to true. No condition.
-/
import Derived.Test.YtbcnedhhebjhdaaGreatDoorK1
import Derived.Test.YtbcnedhhebjhdaaGreatDoorK2
import Derived.OpenShut
import Derived.LaidSub
import Derived.Lib.LaidTab
import Derived.RowKit3

/-
  known comes to true; so does FlowNil.
-/
namespace Go.Proofs.YtbcnedhhebjhdaaGreatDoor.Fa
open Go.Proofs
set_option maxRecDepth 1000000

theorem known_rest : isTrue (leaveBy E0 (run E0 98) (funcOf 9).results.toList (xCode E0 68 255 (cutS 4 (cutS 5 (bodyOf 9)).2).2 (cxOf (run E0 98) 9 68 255) (ofL fl2) (stL hl2 11845))) = true := by kernel_rfl

theorem known_ok : PureOk Tryz.prog rows0 9 true := by
  obtain ⟨st', hst, hum⟩ := isTrue_eq known_rest
  obtain ⟨hfs, hcs⟩ := run_ok mixed env0_ok 98
  have hruns : ∀ b cs, b.fn = 9 → b.roundOf = none → Runs Tryz.prog E0 (funcOf 9).ntmps (maskOf (funcOf 9) (bodyOf 9)) b cs (bodyOf 9) (layArgs (maskOf (funcOf 9) (bodyOf 9)) [] 0 .nil) (rowsSt rows0)
      (xCode E0 68 255 (cutS 4 (cutS 5 (bodyOf 9)).2).2 (cxOf (run E0 98) 9 68 255) (ofL fl2) (stL hl2 11845)) := by
    intro b cs hbf hbr
    rw [known_nt, known_mask]
    have hall : ∀ c, CodeSound Tryz.prog E0 68 255 b cs (xCode E0 68 255 c (cxOf (run E0 98) 9 68 255)) c := fun c => func_all mixed hcs hbf hbr c
    exact Runs.cut hall 5 piece1 (Runs.cut hall 4 piece2 (Runs.all hall rfl))
  refine ⟨?_, fun ε w kind cs hg hs hu => ⟨st', hum, ?_⟩⟩
  · exact ⟨funcOf 9, env0_ok.fn 9 _ known_find, by rw [known_body]; rfl⟩
  · have := (func_of_runs env0_ok hfs known_find known_body (by exact Nat.zero_le _) hruns hst rfl (kind := kind) (cs := cs) hg hs (fun x hx => by cases hx) hu).2
    exact this

theorem nil_run : isTrue (xFunc E0 (orPure rows0 9 true (run E0 98)) 3 [] (rowsSt rows0)) = true := by kernel_rfl

/-- FlowNil, wherever the table lies as it should. -/
theorem nil_ok : PureOk Tryz.prog rows0 3 true := by
  obtain ⟨st', hst, hum⟩ := isTrue_eq nil_run
  obtain ⟨hfs, hcs⟩ := run_ok mixed env0_ok 98
  have hfs' := orPure_func rows0_plain known_ok hfs
  have hcs' := orPure_call rows0_plain known_ok hfs hcs
  refine ⟨⟨funcOf 3, env0_ok.fn 3 _ (by kernel_rfl), by kernel_rfl⟩, fun ε w kind cs hg hs hu => ⟨st', hum, ?_⟩⟩
  have := (xFunc_ok mixed env0_ok hcs' hfs' hst rfl (kind := kind) (cs := cs) hg hs (fun x hx => by cases hx) hu).2
  exact this

end Go.Proofs.YtbcnedhhebjhdaaGreatDoor.Fa

/-
  The table as a row lists it; FlowNil as a call.
-/
namespace Go.Proofs.YtbcnedhhebjhdaaGreatDoor.Fa
open Go.Proofs
set_option maxRecDepth 1000000

theorem rowsName : Tryz.prog.globalNamed "warder/types.rows" = some 0 := by kernel_rfl
theorem rowsType : (Tryz.prog.globals[0]?).map (·.type) = some 469 := by kernel_rfl
theorem under469 : Tryz.prog.underlying 469 = some (.array 5 383) := by kernel_rfl
theorem cells383 : Tryz.prog.cellsOf 383 = 4 := by kernel_rfl
theorem cells469 : Tryz.prog.cellsOf 469 = 20 := by kernel_rfl
theorem under9 : Tryz.prog.underlying 9 = some .string := by kernel_rfl
theorem under3 : Tryz.prog.underlying 3 = some (.int .i64) := by kernel_rfl
theorem cells9 : Tryz.prog.cellsOf 9 = 1 := by kernel_rfl
theorem cells3 : Tryz.prog.cellsOf 3 = 1 := by kernel_rfl
noncomputable def rowFields : Array Field := match Tryz.prog.underlying 383 with
  | some (.struct fs) => fs
  | _ => #[]
theorem under383 : Tryz.prog.underlying 383 = some (.struct rowFields) := by kernel_rfl
theorem rowFields_eq : rowFields.toList.map (fun f => (f.type, f.offset)) = [(9, 0), (3, 1), (3, 2), (3, 3)] := by kernel_rfl

/-- One row of the table. -/
theorem row_cells {H : Type} {enc : TypeId × Value → H} {w : World} {base : Nat} {sp : Nat → Bool} {held : Bool} {fuel : Nat} {cs : List Value} {s : List UInt8} {a b c : Int} {p : List MemPlace}
    (h : DataW.trod enc Tryz.prog w base sp held fuel 383 cs = some (.agg [.lit (.string s), .lit (.int .i64 a), .lit (.int .i64 b), .lit (.int .i64 c)], p)) :
    cs = [.string ⟨s.toArray⟩, .int .i64 a, .int .i64 b, .int .i64 c] := by
  obtain ⟨xs, n, _, hx, hl, hxl, hf⟩ := DataW.trod_struct under383 h
  rw [cells383] at hl
  have hmap : xs.map (·.1) = [.lit (.string s), .lit (.int .i64 a), .lit (.int .i64 b), .lit (.int .i64 c)] := by
    have := congrArg Prod.fst hx
    simp only [DataW.agg.injEq] at this
    exact this.symm
  have hget : ∀ (i t o : Nat), (rowFields.toList.map fun f : Field => (f.type, f.offset))[i]? = some (t, o) → ∃ f, rowFields[i]? = some f ∧ f.type = t ∧ f.offset = o := fun i t o hi => by
    rw [List.getElem?_map] at hi
    cases hfi : rowFields.toList[i]? with
    | none => rw [hfi] at hi; cases hi
    | some f =>
      rw [hfi] at hi
      simp only [Option.map_some, Option.some.injEq, Prod.mk.injEq] at hi
      exact ⟨f, by rw [← Array.getElem?_toList]; exact hfi, hi.1, hi.2⟩
  have hx4 : ∃ x0 x1 x2 x3, xs = [x0, x1, x2, x3] := by
    match xs, hmap with
    | [x0, x1, x2, x3], _ => exact ⟨x0, x1, x2, x3, rfl⟩
  obtain ⟨x0, x1, x2, x3, rfl⟩ := hx4
  simp only [List.map_cons, List.map_nil, List.cons.injEq, and_true] at hmap
  obtain ⟨m0, m1, m2, m3⟩ := hmap
  obtain ⟨f0, g0, t0, o0⟩ := hget 0 9 0 (by rw [rowFields_eq]; rfl)
  obtain ⟨f1, g1, t1, o1⟩ := hget 1 3 1 (by rw [rowFields_eq]; rfl)
  obtain ⟨f2, g2, t2, o2⟩ := hget 2 3 2 (by rw [rowFields_eq]; rfl)
  obtain ⟨f3, g3, t3, o3⟩ := hget 3 3 3 (by rw [rowFields_eq]; rfl)
  have e0 := hf 0 f0 g0
  have e1 := hf 1 f1 g1
  have e2 := hf 2 f2 g2
  have e3 := hf 3 f3 g3
  rw [t0, o0, cells9] at e0
  rw [t1, o1, cells3] at e1
  rw [t2, o2, cells3] at e2
  rw [t3, o3, cells3] at e3
  obtain ⟨s', c0, d0, _⟩ := DataW.trod_string under9 (e0.trans (by rfl))
  obtain ⟨n1, c1, d1, _⟩ := DataW.trod_int under3 (e1.trans (by rfl))
  obtain ⟨n2, c2, d2, _⟩ := DataW.trod_int under3 (e2.trans (by rfl))
  obtain ⟨n3, c3, d3, _⟩ := DataW.trod_int under3 (e3.trans (by rfl))
  match cs, hl with
  | [v0, v1, v2, v3], _ =>
    simp only [List.drop_zero, List.take_succ_cons, List.take_zero, List.drop_succ_cons, List.cons.injEq, and_true] at c0 c1 c2 c3
    subst c0; subst c1; subst c2; subst c3
    rw [d0] at m0
    rw [d1] at m1
    rw [d2] at m2
    rw [d3] at m3
    simp only [DataW.lit.injEq, Lit.string.injEq, Lit.int.injEq, true_and] at m0 m1 m2 m3
    subst m0; subst m1; subst m2; subst m3
    simp

def tableDatum {H : Type} : DataW H := .agg [.agg [.lit (.string []), .lit (.int .i64 0), .lit (.int .i64 0), .lit (.int .i64 0)], .agg [.lit (.string [117, 115, 101, 114]), .lit (.int .i64 1), .lit (.int .i64 128), .lit (.int .i64 3)], .agg [.lit (.string [108, 111, 103, 111, 110]), .lit (.int .i64 1), .lit (.int .i64 64), .lit (.int .i64 2)], .agg [.lit (.string [98, 105, 103]), .lit (.int .i64 1), .lit (.int .i64 256), .lit (.int .i64 3)], .agg [.lit (.string [107, 101, 121, 114, 105, 110, 103]), .lit (.int .i64 0), .lit (.int .i64 0), .lit (.int .i64 5)]]

/-- The whole table. -/
theorem table_cells {H : Type} {enc : TypeId × Value → H} {w : World} {base : Nat} {sp : Nat → Bool} {held : Bool} {fuel : Nat} {cs : List Value} {p : List MemPlace}
    (h : DataW.trod enc Tryz.prog w base sp held fuel 469 cs = some (tableDatum, p)) (ε : Env) : cs = rows0.map (g ε) := by
  obtain ⟨xs, n, _, hx, hl, hxl, hf⟩ := DataW.trod_array under469 h
  rw [cells469] at hl
  have hmap : xs.map (·.1) = [.agg [.lit (.string []), .lit (.int .i64 0), .lit (.int .i64 0), .lit (.int .i64 0)], .agg [.lit (.string [117, 115, 101, 114]), .lit (.int .i64 1), .lit (.int .i64 128), .lit (.int .i64 3)], .agg [.lit (.string [108, 111, 103, 111, 110]), .lit (.int .i64 1), .lit (.int .i64 64), .lit (.int .i64 2)], .agg [.lit (.string [98, 105, 103]), .lit (.int .i64 1), .lit (.int .i64 256), .lit (.int .i64 3)], .agg [.lit (.string [107, 101, 121, 114, 105, 110, 103]), .lit (.int .i64 0), .lit (.int .i64 0), .lit (.int .i64 5)]] := by
    have := congrArg Prod.fst hx
    simp only [tableDatum, DataW.agg.injEq] at this
    exact this.symm
  match xs, hmap with
  | [x0, x1, x2, x3, x4], hmap =>
    simp only [List.map_cons, List.map_nil, List.cons.injEq, and_true] at hmap
    obtain ⟨m0, m1, m2, m3, m4⟩ := hmap
    have e0 := hf 0 (by omega)
    have e1 := hf 1 (by omega)
    have e2 := hf 2 (by omega)
    have e3 := hf 3 (by omega)
    have e4 := hf 4 (by omega)
    obtain ⟨y0, z0⟩ := x0
    obtain ⟨y1, z1⟩ := x1
    obtain ⟨y2, z2⟩ := x2
    obtain ⟨y3, z3⟩ := x3
    obtain ⟨y4, z4⟩ := x4
    simp only at m0 m1 m2 m3 m4
    subst m0; subst m1; subst m2; subst m3; subst m4
    have r0 := row_cells (e0.trans rfl)
    have r1 := row_cells (e1.trans rfl)
    have r2 := row_cells (e2.trans rfl)
    have r3 := row_cells (e3.trans rfl)
    have r4 := row_cells (e4.trans rfl)
    rw [cells383] at r0 r1 r2 r3 r4
    have hsplit : cs = (cs.drop (0 * 4)).take 4 ++ ((cs.drop (1 * 4)).take 4 ++ ((cs.drop (2 * 4)).take 4 ++ ((cs.drop (3 * 4)).take 4 ++ (cs.drop (4 * 4)).take 4))) := by
      refine List.ext_getElem? fun i => ?_
      simp only [List.getElem?_append, List.getElem?_take, List.getElem?_drop, List.length_take, List.length_drop, hl]
      rcases Nat.lt_or_ge i 20 with hi | hi
      · repeat' split
        all_goals first | (congr 1; omega) | omega
      · rw [List.getElem?_eq_none (by omega)]
        repeat' split
        all_goals first | rfl | omega | (rw [List.getElem?_eq_none (by omega)])
    rw [hsplit, r0, r1, r2, r3, r4]
    simp [rows0, g]

end Go.Proofs.YtbcnedhhebjhdaaGreatDoor.Fa

/-
  FlowNil, called where the table lies: true; nothing that was there is touched.
-/
namespace Go.Proofs.YtbcnedhhebjhdaaGreatDoor.Fa
open Go.Proofs Go.RowKit

/-- Each number is its own block. -/
def idEnv : Env := { blk := fun i => i, sft := fun _ => 0, ext := fun _ => 0 }

theorem idEnv_glob : GlobOk (Dn globs) idEnv := fun _ hi => ⟨hi, rfl, rfl⟩

theorem rows_sim {W : World} {arr : Array Value} (h : W.var? Tryz.prog "warder/types.rows" = some arr) (he : arr.toList = rows0.map (g idEnv)) : Sim (Dn globs) idEnv (rowsSt rows0).heap.find W := by
  have hb : ∃ T fz, W.heap[0]? = some (.cells arr T fz) := by
    unfold World.var? at h
    rw [rowsName] at h
    simp only [Option.bind_some] at h
    split at h
    · rename_i c T fz hc
      injection h with h
      subst h
      exact ⟨T, fz, hc⟩
    · cases h
  obtain ⟨T, fz, hb⟩ := hb
  refine ⟨fun id b hb => ?_, fun id b hbb => ?_, fun i j b c hb hc _ => ?_⟩
  · rw [(rows_find hb).1]; exact (by decide : 0 < globs)
  · obtain ⟨h1, h2⟩ := rows_find hbb
    subst h1; subst h2
    refine ⟨_, hb, arr, T, fz, rfl, fun i v hv => ?_, fun c hc => ⟨rows0_plain c hc _ _, ?_⟩⟩
    · show arr[0 + i]? = some (g idEnv v)
      rw [Nat.zero_add, ← Array.getElem?_toList, he, List.getElem?_map, hv]
      rfl
    · simp only [rows0, List.mem_cons, List.not_mem_nil, or_false] at hc
      rcases hc with h | h | h | h | h | h | h | h | h | h | h | h | h | h | h | h | h | h | h | h <;> subst h <;> rfl
  · rw [(rows_find hb).1, (rows_find hc).1]

/-- Whatever was there is as it was. -/
theorem kept_all {W W' : World} (ho : W'.os = W.os ∧ W'.output = W.output) (h : ∀ i, i < W.heap.size → W'.heap[i]? = W.heap[i]?) (may : MemPlace → Prop) : W.keptBut W' may := by
  refine ⟨ho.1, ho.2, fun i hi => ?_⟩
  rw [h i hi]
  cases hx : W.heap[i]? with
  | none => rfl
  | some o =>
    cases o with
    | cells c t fr => exact ⟨rfl, rfl, rfl, fun _ _ => rfl⟩
    | map es c => exact .inr ⟨rfl, rfl⟩
    | _ => rfl

theorem nil_calls {W : World} {arr : Array Value} (h : W.var? Tryz.prog "warder/types.rows" = some arr) (he : arr.toList = rows0.map (g idEnv)) :
    Calls Tryz.prog 3 #[] W fun e W' => e = .returned (.bool true) ∧ W.keptBut W' (fun _ => False) := by
  intro cs
  obtain ⟨st', hum, ε', w', fr', ha, _, hst, hfn, hdef, hk, hmode, _, fn, hF, hres⟩ := nil_ok.2 idEnv W .normal cs idEnv_glob (rows_sim h he) (.inl rfl)
  have hst' : Steps Tryz.prog (lone (Frame.enter Tryz.prog 3 #[] .normal) cs W) (lone fr' cs w') := by
    rw [hum] at hst
    exact hst
  refine ⟨.returned (.bool true), w', fr', ⟨rfl, kept_all ⟨ha.os.1, ha.os.2.2⟩ (fun i hi => ha.frame i hi fun id x hx hr => ?_) _⟩, hst', hfn, hmode, hdef, hk, fn, by rw [hfn]; exact hF, by simpa [g] using hres⟩
  obtain ⟨_, h2⟩ := rows_find hx
  subst h2
  cases hr

/-- A call without arguments that leaves everything as it was: the row's 'after'. -/
theorem post_of_none {H : Type} {enc : TypeId × Value → H} {P : Program} {f : Func} {s : ChangeSpec} {apart fresh handsOn : Bool} {W W' : World} {args : Array Value} {v : Value} {ds gs : List (DataW H)}
    (hW : DataW.Whole enc P f.params.toList s.vars apart W args.toList ds gs [])
    (hres : ∀ (b : Nat) (sp : Nat → Bool) (hd : Bool), DataW.TrodAll enc P W' b sp hd f.resultTypes.toList (v.resultList f.resultTypes.size) (s.fn H (ds ++ gs)).results [])
    (hargs : ∀ sp : Nat → Bool, DataW.TrodAll enc P W' 0 sp true f.params.toList args.toList (s.fn H (ds ++ gs)).args [])
    (hvars : ∀ sp : Nat → Bool, DataW.TrodVars enc P W' sp s.vars (s.fn H (ds ++ gs)).vars [])
    (hk : W.keptBut W' (fun _ => False)) :
    s.post enc P f apart fresh handsOn false W args v W' := by
  refine ⟨ds, gs, [], [], [], [], hW, hres _ _ _, hargs _, hvars _, World.keptBut_mono (fun p hp => hp.elim) hk, fun h => by cases h⟩

end Go.Proofs.YtbcnedhhebjhdaaGreatDoor.Fa
