/-
  A closure of names by a table; a row's facts, one by one. No condition.
-/
import Derived.Test.YtbcnedhhebjhdaaGreatDoorFa7
import GoSem.ClaimGoes
import Derived.JoinedOf

/-
  A closure of names, by a table; a row's facts, one by one.
-/
namespace Go.Proofs.YtbcnedhhebjhdaaGreatDoor.Fa
noncomputable section
/-- The walk of 'closureVia', by a table (bits: what was seen). -/
def cloF (T : Tr (List Nat)) (n : Nat) : List Nat → List Nat → Nat → Option (List Nat) :=
  Nat.rec (motive := fun _ => List Nat → List Nat → Nat → Option (List Nat)) (fun _ _ _ => none)
    (fun _ ih todo seen bits => List.rec (motive := fun _ => Option (List Nat)) (some seen.reverse)
      (fun f rest _ => bi (bit bits f) (ih rest seen bits) (ob (T.find f) fun l => force (Nat.lor bits (Nat.shiftLeft 1 f)) fun b => ih (lapp l rest) (f :: seen) b)) todo) n
end

theorem cloF_ok {P : Program} {T : Tr (List Nat)} (hT : ∀ g l, T.find g = some l → (P.funcs[g]?).elim [] P.leadsTo = l) : ∀ (n : Nat) (todo seen : List Nat) (bits : Nat) (L : List Nat), (∀ x, bit bits x = seen.contains x) →
    cloF T n todo seen bits = some L → P.closureVia n todo seen = L
  | 0, _, _, _, _, _, h => by cases h
  | n + 1, [], seen, bits, L, _, h => by
    have h' : some seen.reverse = some L := h
    injection h'
  | n + 1, f :: todo, seen, bits, L, hb, h => by
    have h' : bi (bit bits f) (cloF T n todo seen bits) (ob (T.find f) fun l => force (Nat.lor bits (Nat.shiftLeft 1 f)) fun b => cloF T n (lapp l todo) (f :: seen) b) = some L := h
    unfold Program.closureVia
    rw [bi_eq] at h'
    split at h'
    · rename_i hs
      rw [hb] at hs
      rw [if_pos hs]
      exact cloF_ok hT n todo seen bits L hb h'
    · rename_i hs
      rw [hb] at hs
      rw [if_neg hs]
      rw [ob_eq_some] at h'
      obtain ⟨l, hl, h'⟩ := h'
      rw [force_eq, lapp_eq] at h'
      rw [hT f l hl]
      refine cloF_ok hT n (l ++ todo) (f :: seen) _ L (fun x => ?_) h'
      rw [bit_lor, bit_shift, hb]
      simp only [List.contains_cons]
      by_cases hx : x = f
      · subst hx; simp
      · have hx' : ¬ f = x := fun h => hx h.symm
        simp [hx, hx']

theorem table_ok {P : Program} {tab : List (List Nat)} (h : P.funcs.toList.map P.leadsTo = tab) (g : Nat) (l : List Nat) (hl : (Tr.ofList 20 tab).find g = some l) : (P.funcs[g]?).elim [] P.leadsTo = l := by
  have h1 := Tr.find_ofList 20 tab g l hl
  rw [← h, List.getElem?_map] at h1
  rw [← Array.getElem?_toList]
  cases hg : P.funcs.toList[g]? with
  | none => rw [hg] at h1; cases h1
  | some F => rw [hg] at h1; injection h1

theorem closure_ok {P : Program} {tab : List (List Nat)} (h : P.funcs.toList.map P.leadsTo = tab) {f n : Nat} {L : List Nat} (hn : 1 + (tab.map fun l => l.length + 1).sum = n) (hc : cloF (Tr.ofList 20 tab) n [f] [] 0 = some L) : P.closure f = L := by
  unfold Program.closure
  have : (P.funcs.toList.map fun g => (P.leadsTo g).length + 1) = tab.map fun l => l.length + 1 := by
    rw [← h, List.map_map]
    rfl
  rw [this, hn]
  exact cloF_ok (table_ok h) n [f] [] 0 L (fun x => by rw [bit_zero]; rfl) hc

theorem and_t {a b : Bool} (h : a = true) (k : b = true) : (a && b) = true := by rw [h, k]; rfl

theorem joined_of {P : Program} {f : FuncId} {fn : Func} {s : ChangeSpec} {c : OpenClaim} (h1 : c.wf (OpenSpec.ofChange s) = true) (h2 : laidOutB P = true) (h3 : mapsRowed P = true) (h4 : fn.params.all (P.readableRec ·) = true) (h5 : namedTie P c.named s.vars = true)
    (h6 : (c.stops == []) = true) (h7 : (P.stops == []) = true) (h8 : (c.knobs == []) = true) (h9 : (P.stopKnobs == []) = true) (h10 : (c.inPlace == P.inPlace f) = true) (h11 : (c.unfollowed == P.unfollowed f) = true) (h12 : (c.recurses == P.recurses f) = true) (h13 : (c.named == P.varsNamed f) = true)
    (h14 : (c.maps == (fn.params.toList ++ s.plain.varTypes P).any (P.mapsRec ·)) = true) (h15 : (c.ifaces == (fn.params.toList ++ s.plain.varTypes P).any (P.ifacesRec ·)) = true) (h16 : (c.mapsOut == P.mapsAmong fn.resultTypes.toList) = true)
    (h17 : (c.loops == (fn.params.toList ++ s.plain.varTypes P).any (P.loopsFrom ·)) = true) (h18 : (c.wideKeys == (fn.params.toList ++ s.plain.varTypes P ++ fn.resultTypes.toList).any (P.wideKeysFrom ·)) = true)
    (h19 : s.vars.all (P.varReadable ·) = true) (h20 : fn.resultTypes.all (fun t => P.readableRec t && decide (t < P.types.size)) = true) (h21 : (c.ifacesOut == fn.resultTypes.toList.any (P.ifacesRec ·)) = true) (h22 : (c.loopsOut == fn.resultTypes.toList.any (P.loopsFrom ·)) = true)
    (h23 : (c.plainKeys == P.plainKeys) = true) (h24 : c.shortTexts.isNone = true) (h25 : P.stopsHeard = true) (h26 : P.mayEnter = true) (h27 : (c.lifted == P.liftsFinal) = true) (h28 : (P.make == some c.make) = true)
    (h29 : (c.kinds == (if c.domain.isEmpty then [] else fn.params.toList.map fun t => match P.underlying t with | some (.int k) => some k | _ => none)) = true) (h30 : (c.pinned == c.pinnedBy) = true)
    (h31 : (c.veiled == (fn.params.toList ++ s.plain.varTypes P ++ fn.resultTypes.toList).any (P.veiledRec ·)) = true) (h32 : c.veiledFits P fn.params.toList (fn.params.toList ++ s.plain.varTypes P ++ fn.resultTypes.toList) = true) : joinedFacts P f fn s c = true := by
  unfold joinedFacts
  exact and_t (and_t (and_t (and_t (and_t (and_t (and_t (and_t (and_t (and_t (and_t (and_t (and_t (and_t (and_t (and_t (and_t (and_t (and_t (and_t (and_t (and_t (and_t (and_t (and_t (and_t (and_t (and_t (and_t (and_t (and_t h1 h2) h3) h4) h5) h6) h7) h8) h9) h10) h11) h12) h13) h14) h15) h16) h17) h18) h19) h20) h21) h22) h23) h24) h25) h26) h27) h28) h29) h30) h31) h32

/-- Layouts, a stretch of the table at a time. -/
theorem all_range {p : Nat → Bool} (n m : Nat) (h : (List.range n).all p = true) (h2 : (List.range' n m).all p = true) : (List.range (n + m)).all p = true := by
  rw [List.all_eq_true] at h h2 ⊢
  intro x hx
  rw [List.mem_range] at hx
  rcases Nat.lt_or_ge x n with hlt | hge
  · exact h x (List.mem_range.2 hlt)
  · exact h2 x (by rw [List.mem_range'_1]; omega)

/-- A list's property, a stretch at a time. -/
theorem all_step {α : Type} {p : α → Bool} {l : List α} (k m : Nat) (h : ((l.drop k).take m).all p = true) (h2 : (l.drop (k + m)).all p = true) : (l.drop k).all p = true := by
  have e : l.drop k = (l.drop k).take m ++ l.drop (k + m) := by
    rw [← List.drop_drop, List.take_append_drop]
  rw [e, List.all_append, h, h2]
  rfl

/-- No go statement stands anywhere: none from a function. -/
theorem not_goes {P : Program} (f : FuncId) (h : (P.funcs.toList.drop 0).all (fun fn => !fn.goes) = true) : P.goes f = false := by
  rw [List.drop_zero, List.all_eq_true] at h
  have hm : ∀ fn : Func, fn ∈ P.funcs → fn.goes = false := fun fn hf => by
    have := h fn (Array.mem_toList_iff.2 hf)
    simpa using this
  unfold Program.goes
  rw [Bool.or_eq_false_iff, Bool.and_eq_false_iff]
  refine ⟨?_, .inr ?_⟩
  · rw [List.any_eq_false]
    intro g _ hg
    cases hf : P.funcs[g]? with
    | none => rw [hf] at hg; cases hg
    | some fn =>
      rw [hf] at hg
      have hg' : fn.goes = true := hg
      rw [hm fn (Array.mem_of_getElem? hf)] at hg'
      cases hg'
  · rw [Array.any_eq_false']
    intro fn hf hg
    rw [hm fn hf] at hg
    cases hg
end Go.Proofs.YtbcnedhhebjhdaaGreatDoor.Fa
