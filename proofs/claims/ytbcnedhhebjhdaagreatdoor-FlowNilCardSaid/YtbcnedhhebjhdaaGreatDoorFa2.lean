/-
  What abstract memory says of a world; lists, types; quiet operations (1). No condition.
-/
import Derived.Test.YtbcnedhhebjhdaaGreatDoorFa1
import Derived.Laws.Sem
import Derived.Laws.World
import Derived.Calls
import GoSem.Dispatch
import Derived.Lib.Strings
import Derived.Laws.BytesString

/-
  What an abstract value, an abstract memory say of the model's: readings, and how they last.
-/
namespace Go.Proofs.YtbcnedhhebjhdaaGreatDoor.Fa

/-- Where ids lie: block, first cell, and how many elements the block bears from there on (of open rows). -/
structure Env where
  blk : Nat → Nat
  sft : Nat → Nat
  ext : Nat → Nat

def gCap (ε : Env) (id : Nat) : ACap → Nat
  | .exact n => n
  | .grown s => ε.ext id - s

def gFn (ε : Env) : Fn → Fn
  | .yield l => .yield (ε.blk l)
  | f => f

/-- The value that is meant. -/
def g (ε : Env) : AV → Value
  | .bool b => .bool b
  | .int k n => .int k n
  | .str s => .string ⟨s.toArray⟩
  | .nilPtr => .pointer none
  | .ptr id off => .pointer (some ⟨ε.blk id, ε.sft id + off, none⟩)
  | .nilSlc => .slice none 0 0
  | .slc id off len c => .slice (some ⟨ε.blk id, ε.sft id + off, none⟩) len (gCap ε id c)
  | .nilMap => .map none
  | .map id => .map (some (ε.blk id))
  | .fn f a b => .func (gFn ε f) (a.map (g ε)).toArray (b.map (g ε)).toArray
  | .nilFn => .nilFunc
  | .nilIface => .nilIface
  | .iface t v => .iface t (g ε v)
  | .agg cs => .agg (cs.map (g ε)).toArray
  | .tup vs => .tuple (vs.map (g ε)).toArray

def capOk (ε : Env) (id len : Nat) : ACap → Prop
  | .exact n => len ≤ n
  | .grown s => s + len ≤ ε.ext id

/-- Is the value one cell? -/
def one1 : AV → Bool
  | .agg _ => false
  | .tup _ => false
  | _ => true

/-- A value's ids are there (in D); its parts are as they must be. -/
def okv (D : Nat → Prop) (ε : Env) : AV → Prop
  | .ptr id _ => D id
  | .slc id _ len c => D id ∧ capOk ε id len c
  | .map id => D id
  | .fn f a b => (∀ l, f = .yield l → D l) ∧ (∀ x ∈ a, okv D ε x) ∧ (∀ x ∈ b, okv D ε x)
  | .iface _ v => okv D ε v
  | .agg cs => ∀ c ∈ cs, okv D ε c ∧ one1 c = true
  | .tup vs => ∀ x ∈ vs, okv D ε x
  | _ => True

/-- Two readings that agree where ids are there. -/
def Agree (D : Nat → Prop) (ε ε' : Env) : Prop := ∀ i, D i → ε'.blk i = ε.blk i ∧ ε'.sft i = ε.sft i ∧ ε'.ext i = ε.ext i

theorem Agree.refl (D : Nat → Prop) (ε : Env) : Agree D ε ε := fun _ _ => ⟨rfl, rfl, rfl⟩
theorem Agree.mono {D D' : Nat → Prop} {ε ε' : Env} (h : Agree D' ε ε') (hd : ∀ i, D i → D' i) : Agree D ε ε' := fun i hi => h i (hd i hi)
theorem Agree.trans {D D' : Nat → Prop} {ε ε' ε'' : Env} (h : Agree D ε ε') (h' : Agree D' ε' ε'') (hd : ∀ i, D i → D' i) : Agree D ε ε'' := fun i hi => by
  obtain ⟨a, b, c⟩ := h i hi
  obtain ⟨a', b', c'⟩ := h' i (hd i hi)
  exact ⟨a'.trans a, b'.trans b, c'.trans c⟩

theorem gCap_agree {D : Nat → Prop} {ε ε' : Env} (h : Agree D ε ε') {id : Nat} (hd : D id) (c : ACap) : gCap ε' id c = gCap ε id c := by
  cases c <;> simp [gCap, (h id hd).2.2]
theorem capOk_agree {D : Nat → Prop} {ε ε' : Env} (h : Agree D ε ε') {id len : Nat} (hd : D id) (c : ACap) (hc : capOk ε id len c) : capOk ε' id len c := by
  cases c <;> simp_all [capOk, (h id hd).2.2]

mutual
theorem g_agree {D : Nat → Prop} {ε ε' : Env} (h : Agree D ε ε') : ∀ v : AV, okv D ε v → g ε' v = g ε v
  | .bool _, _ => by simp [g]
  | .int _ _, _ => by simp [g]
  | .str _, _ => by simp [g]
  | .nilPtr, _ => by simp [g]
  | .ptr id _, hv => by simp only [okv] at hv; simp [g, (h id hv).1, (h id hv).2.1]
  | .nilSlc, _ => by simp [g]
  | .slc id _ _ c, hv => by simp only [okv] at hv; simp [g, (h id hv.1).1, (h id hv.1).2.1, gCap_agree h hv.1]
  | .nilMap, _ => by simp [g]
  | .map id, hv => by simp only [okv] at hv; simp [g, (h id hv).1]
  | .fn f a b, hv => by
    simp only [okv] at hv
    have hf : gFn ε' f = gFn ε f := by cases f <;> simp [gFn]; exact (h _ (hv.1 _ rfl)).1
    simp only [g, hf, gs_agree h a hv.2.1, gs_agree h b hv.2.2]
  | .nilFn, _ => by simp [g]
  | .nilIface, _ => by simp [g]
  | .iface _ v, hv => by simp only [okv] at hv; simp [g, g_agree h v hv]
  | .agg cs, hv => by simp only [okv] at hv; simp only [g, gs_agree h cs (fun x hx => (hv x hx).1)]
  | .tup vs, hv => by simp only [okv] at hv; simp only [g, gs_agree h vs hv]
theorem gs_agree {D : Nat → Prop} {ε ε' : Env} (h : Agree D ε ε') : ∀ l : List AV, (∀ x ∈ l, okv D ε x) → l.map (g ε') = l.map (g ε)
  | [], _ => rfl
  | a :: l, hl => by simp only [List.map_cons]; rw [g_agree h a (hl a (by simp)), gs_agree h l (fun x hx => hl x (by simp [hx]))]
end

mutual
theorem okv_agree {D D' : Nat → Prop} {ε ε' : Env} (h : Agree D ε ε') (hd : ∀ i, D i → D' i) : ∀ v : AV, okv D ε v → okv D' ε' v
  | .bool _, _ => by simp [okv]
  | .int _ _, _ => by simp [okv]
  | .str _, _ => by simp [okv]
  | .nilPtr, _ => by simp [okv]
  | .ptr id _, hv => by simp only [okv] at hv ⊢; exact hd _ hv
  | .nilSlc, _ => by simp [okv]
  | .slc id _ _ c, hv => by simp only [okv] at hv ⊢; exact ⟨hd _ hv.1, capOk_agree h hv.1 c hv.2⟩
  | .nilMap, _ => by simp [okv]
  | .map id, hv => by simp only [okv] at hv ⊢; exact hd _ hv
  | .fn f a b, hv => by
    simp only [okv] at hv ⊢
    exact ⟨fun l hl => hd _ (hv.1 l hl), okvs_agree h hd a hv.2.1, okvs_agree h hd b hv.2.2⟩
  | .nilFn, _ => by simp [okv]
  | .nilIface, _ => by simp [okv]
  | .iface _ v, hv => by simp only [okv] at hv ⊢; exact okv_agree h hd v hv
  | .agg cs, hv => by simp only [okv] at hv ⊢; exact fun c hc => ⟨okvs_agree h hd cs (fun x hx => (hv x hx).1) c hc, (hv c hc).2⟩
  | .tup vs, hv => by simp only [okv] at hv ⊢; exact okvs_agree h hd vs hv
theorem okvs_agree {D D' : Nat → Prop} {ε ε' : Env} (h : Agree D ε ε') (hd : ∀ i, D i → D' i) : ∀ l : List AV, (∀ x ∈ l, okv D ε x) → ∀ x ∈ l, okv D' ε' x
  | [], _ => by simp
  | a :: l, hl => fun x hx => by
    rcases List.mem_cons.1 hx with hx | hx
    · have := okv_agree h hd a (hl a (by simp))
      exact hx ▸ this
    · exact okvs_agree h hd l (fun y hy => hl y (by simp [hy])) x hx
end

theorem g_one1 (ε : Env) (v : AV) : (g ε v).oneCell' = one1 v := by cases v <;> simp [g, one1, Value.oneCell']
theorem g_undef (ε : Env) : g ε .undef = undef := by simp [AV.undef, g, undef]

/-! ### Objects -/
def row (cs rear : List AV) : List AV := cs ++ rear.reverse

/-- From an id's first cell on a row reads as cs. -/
def Win (ε : Env) (id : Nat) (cs : List AV) (arr : Array Value) : Prop := ∀ i v, cs[i]? = some v → arr[ε.sft id + i]? = some (g ε v)

def CellsOk (D : Nat → Prop) (ε : Env) (cs : List AV) : Prop := ∀ c ∈ cs, okv D ε c ∧ one1 c = true

/-- No byte of a row is marked. -/
def NoMark (n : Nat) (fz : Nat × Nat) : Prop := ∀ off, off < n → (decide (fz.1 ≤ off) && decide (off < fz.2)) = false

def gEnt (ε : Env) (e : Ent) : MapEntry := { key := g ε e.1, val := g ε e.2.1, born := e.2.2 }
def entOk (D : Nat → Prop) (ε : Env) (e : Ent) : Prop := okv D ε e.1 ∧ okv D ε e.2.1

def loopState : Nat → LoopState
  | 0 => .ready
  | 1 => .busy
  | 2 => .done
  | _ => .exhausted

/-- What is known of a frame's temporaries. -/
def FrRel (D : Nat → Prop) (ε : Env) (fr : Tr AV) (tmps : Array Value) : Prop := ∀ t v, fr.find t = some v → tmps.getD t undef = g ε v ∧ okv D ε v

/-- What an abstract object says of an object at its id. -/
def BlkOk (D : Nat → Prop) (ε : Env) (id : Nat) : ABlk → Obj → Prop
  | .cells cs rear o str, x => ∃ arr T fz, x = .cells arr T fz ∧ Win ε id (row cs rear) arr ∧ CellsOk D ε (row cs rear) ∧ NoMark arr.size fz ∧ (str = false → fz = (0, 0)) ∧
      (∀ z, o = some z → z.2 = (row cs rear).length ∧ ε.sft id + ε.ext id * z.1 ≤ arr.size)
  | .ro cs, x => ∃ arr T fz, x = .cells arr T fz ∧ Win ε id cs arr ∧ CellsOk D ε cs
  | .map es c, x => x = .map (es.map (gEnt ε)).toArray c ∧ ∀ e ∈ es, entOk D ε e
  | .strIter s p, x => x = .stringIter ⟨s.toArray⟩ p ∧ ε.sft id = 0
  | .mapIter m s seen last, x => (x = .mapIter (m.map ε.blk) s seen.toArray last ∧ ε.sft id = 0) ∧ ∀ i, m = some i → D i
  | .loop s pend fn tm nt mask ps a b, x => ∃ tmps ds, x = .loop { state := loopState s, pending := pend, fn, tmps, params := ps.toArray, assign := a, body := b, defers := ds } ∧ tmps.size = nt ∧ FrRel D ε tm tmps ∧ (∀ t v, tm.find t = some v → bit mask t = true)
  | .defs there, x => x = .deferred (if there then some [] else none)

/-- What an abstract memory says of a world. -/
structure Sim (D : Nat → Prop) (ε : Env) (h : Nat → Option ABlk) (w : World) : Prop where
  there : ∀ id b, h id = some b → D id
  obj : ∀ id b, h id = some b → ∃ x, w.heap[ε.blk id]? = some x ∧ BlkOk D ε id b x
  inj : ∀ id id' b b', h id = some b → h id' = some b' → ε.blk id = ε.blk id' → id = id'

theorem FrRel.agree {D D' : Nat → Prop} {ε ε' : Env} {fr : Tr AV} {tmps : Array Value} (h : FrRel D ε fr tmps) (ha : Agree D ε ε') (hd : ∀ i, D i → D' i) : FrRel D' ε' fr tmps := fun t v hv => by
  obtain ⟨h1, h2⟩ := h t v hv
  exact ⟨by rw [h1, g_agree ha v h2], okv_agree ha hd v h2⟩

theorem CellsOk.agree {D D' : Nat → Prop} {ε ε' : Env} {cs : List AV} (h : CellsOk D ε cs) (ha : Agree D ε ε') (hd : ∀ i, D i → D' i) : CellsOk D' ε' cs := fun c hc => ⟨okv_agree ha hd c (h c hc).1, (h c hc).2⟩

theorem Win.agree {D : Nat → Prop} {ε ε' : Env} {id : Nat} {cs : List AV} {arr : Array Value} (h : Win ε id cs arr) (ho : CellsOk D ε cs) (ha : Agree D ε ε') (hid : D id) : Win ε' id cs arr := fun i v hv => by
  rw [(ha id hid).2.1, h i v hv, g_agree ha v (ho v (List.mem_of_getElem? hv)).1]

theorem gEnt_agree {D : Nat → Prop} {ε ε' : Env} (ha : Agree D ε ε') {es : List Ent} (h : ∀ e ∈ es, entOk D ε e) : es.map (gEnt ε') = es.map (gEnt ε) :=
  List.map_congr_left fun e he => by simp only [gEnt]; rw [g_agree ha _ (h e he).1, g_agree ha _ (h e he).2]

theorem BlkOk.agree {D D' : Nat → Prop} {ε ε' : Env} {id : Nat} {b : ABlk} {x : Obj} (h : BlkOk D ε id b x) (ha : Agree D ε ε') (hd : ∀ i, D i → D' i) (hid : D id) : BlkOk D' ε' id b x := by
  cases b with
  | cells cs rear o str =>
    obtain ⟨arr, T, fz, hx, hw, ho, hm, hs, hz⟩ := h
    exact ⟨arr, T, fz, hx, hw.agree ho ha hid, ho.agree ha hd, hm, hs, fun z hzz => by rw [(ha id hid).2.1, (ha id hid).2.2]; exact hz z hzz⟩
  | ro cs =>
    obtain ⟨arr, T, fz, hx, hw, ho⟩ := h
    exact ⟨arr, T, fz, hx, hw.agree ho ha hid, ho.agree ha hd⟩
  | map es c =>
    obtain ⟨hx, ho⟩ := h
    exact ⟨by rw [gEnt_agree ha ho]; exact hx, fun e he => ⟨okv_agree ha hd _ (ho e he).1, okv_agree ha hd _ (ho e he).2⟩⟩
  | strIter s p => exact ⟨h.1, by rw [(ha id hid).2.1]; exact h.2⟩
  | mapIter m s seen last =>
    obtain ⟨⟨hx, hz⟩, ho⟩ := h
    refine ⟨⟨?_, by rw [(ha id hid).2.1]; exact hz⟩, fun i hi => hd i (ho i hi)⟩
    cases m with
    | none => exact hx
    | some i => simp only [Option.map_some] at hx ⊢; rw [(ha i (ho i rfl)).1]; exact hx
  | loop s pend fn tm nt mask ps a b =>
    obtain ⟨tmps, ds, hx, hn, hf, hm⟩ := h
    exact ⟨tmps, ds, hx, hn, hf.agree ha hd, hm⟩
  | defs there => exact h

/-- Less memory. -/
theorem Sim.less {D : Nat → Prop} {ε : Env} {h h' : Nat → Option ABlk} {w : World} (s : Sim D ε h w) (hl : ∀ id b, h' id = some b → h id = some b) : Sim D ε h' w :=
  ⟨fun id b hb => s.there id b (hl id b hb), fun id b hb => s.obj id b (hl id b hb), fun i j b c hb hc => s.inj i j b c (hl i b hb) (hl j c hc)⟩

theorem Sim.agree {D D' : Nat → Prop} {ε ε' : Env} {h : Nat → Option ABlk} {w : World} (s : Sim D ε h w) (ha : Agree D ε ε') (hd : ∀ i, D i → D' i) : Sim D' ε' h w where
  there id b hb := hd id (s.there id b hb)
  obj id b hb := by
    have hi := s.there id b hb
    obtain ⟨x, hx, hb'⟩ := s.obj id b hb
    exact ⟨x, by rw [(ha id hi).1]; exact hx, hb'.agree ha hd hi⟩
  inj i j b c hb hc he := s.inj i j b c hb hc (by rw [← (ha i (s.there i b hb)).1, ← (ha j (s.there j c hc)).1]; exact he)

/-- Memory alone counts. -/
theorem Sim.heap {D : Nat → Prop} {ε : Env} {h : Nat → Option ABlk} {w w' : World} (s : Sim D ε h w) (hw : w'.heap = w.heap) : Sim D ε h w' :=
  ⟨s.there, fun id b hb => by rw [hw]; exact s.obj id b hb, s.inj⟩

theorem Sim.lt {D : Nat → Prop} {ε : Env} {h : Nat → Option ABlk} {w : World} (s : Sim D ε h w) {id : Nat} {b : ABlk} (hb : h id = some b) : ε.blk id < w.heap.size := by
  obtain ⟨x, hx, _⟩ := s.obj id b hb
  rcases Nat.lt_or_ge (ε.blk id) w.heap.size with h | h
  · exact h
  · simp [Array.getElem?_eq_none h] at hx

end Go.Proofs.YtbcnedhhebjhdaaGreatDoor.Fa

/-
  What the evaluator's small functions compute, in the library's words.
-/
namespace Go.Proofs.YtbcnedhhebjhdaaGreatDoor.Fa

theorem ob_eq {α β : Type} (x : Option α) (k : α → Option β) : ob x k = x.bind k := by cases x <;> rfl
@[simp] theorem ob_none {α β : Type} (k : α → Option β) : ob none k = none := rfl
@[simp] theorem ob_some {α β : Type} (a : α) (k : α → Option β) : ob (some a) k = k a := rfl
@[simp] theorem bi_true {α : Type} (x y : α) : bi true x y = x := rfl
@[simp] theorem bi_false {α : Type} (x y : α) : bi false x y = y := rfl
theorem bi_eq {α : Type} (b : Bool) (x y : α) : bi b x y = if b then x else y := by cases b <;> rfl
theorem ob_eq_some {α β : Type} {x : Option α} {k : α → Option β} {b : β} : ob x k = some b ↔ ∃ a, x = some a ∧ k a = some b := by cases x <;> simp
@[simp] theorem andb_eq (a b : Bool) : andb a b = (a && b) := by cases a <;> cases b <;> rfl
@[simp] theorem orb_eq (a b : Bool) : orb a b = (a || b) := by cases a <;> cases b <;> rfl
@[simp] theorem notb_eq (a : Bool) : notb a = !a := by cases a <;> rfl
@[simp] theorem eqb_eq (a b : Bool) : eqb a b = (a == b) := by cases a <;> cases b <;> rfl
@[simp] theorem force_eq {α : Type} (n : Nat) (k : Nat → α) : force n k = k n := by cases n <;> rfl

/-! ### Tries -/
@[simp] theorem Tr.find_nil {α : Type} (n : Nat) : (Tr.nil : Tr α).find n = none := rfl
@[simp] theorem Tr.find_zero {α : Type} (l r : Tr α) (v : Option α) : (Tr.node l v r).find 0 = v := rfl
theorem Tr.find_succ {α : Type} (l r : Tr α) (v : Option α) (m : Nat) : (Tr.node l v r).find (m + 1) = if m % 2 = 0 then l.find (m / 2) else r.find (m / 2) := by
  show (Bool.rec (motive := fun _ => Option α) (r.find (Nat.div m 2)) (l.find (Nat.div m 2)) (Nat.beq (Nat.mod m 2) 0) : Option α) = _
  by_cases h : m % 2 = 0
  · have : Nat.beq (Nat.mod m 2) 0 = true := by show Nat.beq (m % 2) 0 = true; rw [h]; rfl
    rw [this, if_pos h]; rfl
  · have : Nat.beq (Nat.mod m 2) 0 = false := by
      have : m % 2 = 1 := by omega
      show Nat.beq (m % 2) 0 = false; rw [this]; rfl
    rw [this, if_neg h]; rfl

theorem Tr.lone_zero {α : Type} (n : Nat) (a : Option α) : Tr.lone 0 n a = .nil := rfl
theorem Tr.lone_succ_zero {α : Type} (f : Nat) (a : Option α) : Tr.lone (f + 1) 0 a = .node .nil a .nil := rfl
theorem Tr.lone_succ {α : Type} (f m : Nat) (a : Option α) : Tr.lone (f + 1) (m + 1) a = if m % 2 = 0 then .node (Tr.lone f (m / 2) a) none .nil else .node .nil none (Tr.lone f (m / 2) a) := by
  show bi (Nat.beq (Nat.mod m 2) 0) _ _ = _
  by_cases h : m % 2 = 0
  · have : Nat.beq (Nat.mod m 2) 0 = true := by show Nat.beq (m % 2) 0 = true; rw [h]; rfl
    rw [this, if_pos h]; rfl
  · have : Nat.beq (Nat.mod m 2) 0 = false := by
      have : m % 2 = 1 := by omega
      show Nat.beq (m % 2) 0 = false; rw [this]; rfl
    rw [this, if_neg h]; rfl

theorem Tr.set_nil {α : Type} (n : Nat) (a : Option α) : (Tr.nil : Tr α).set n a = Tr.lone (n + 1) n a := rfl
theorem Tr.set_zero {α : Type} (l r : Tr α) (v a : Option α) : (Tr.node l v r).set 0 a = .node l a r := rfl
theorem Tr.set_succ {α : Type} (l r : Tr α) (v a : Option α) (m : Nat) : (Tr.node l v r).set (m + 1) a = if m % 2 = 0 then .node (l.set (m / 2) a) v r else .node l v (r.set (m / 2) a) := by
  show (Bool.rec (motive := fun _ => Tr α) (Tr.node l v (r.set (Nat.div m 2) a)) (Tr.node (l.set (Nat.div m 2) a) v r) (Nat.beq (Nat.mod m 2) 0) : Tr α) = _
  by_cases h : m % 2 = 0
  · have : Nat.beq (Nat.mod m 2) 0 = true := by show Nat.beq (m % 2) 0 = true; rw [h]; rfl
    rw [this, if_pos h]; rfl
  · have : Nat.beq (Nat.mod m 2) 0 = false := by
      have : m % 2 = 1 := by omega
      show Nat.beq (m % 2) 0 = false; rw [this]; rfl
    rw [this, if_neg h]; rfl

theorem Tr.find_lone {α : Type} (f : Nat) : ∀ (n j : Nat) (a : Option α), n < f → (Tr.lone f n a).find j = if n = j then a else none := by
  induction f with
  | zero => intro n j a h; omega
  | succ f ih =>
    intro n j a h
    cases n with
    | zero =>
      rw [Tr.lone_succ_zero]
      cases j with
      | zero => simp
      | succ j => rw [Tr.find_succ]; simp
    | succ m =>
      rw [Tr.lone_succ]
      cases j with
      | zero => split <;> simp
      | succ j =>
        have hm : m / 2 < f := by omega
        by_cases hp : m % 2 = 0
        · rw [if_pos hp, Tr.find_succ]
          by_cases hj : j % 2 = 0
          · rw [if_pos hj, ih _ _ _ hm]
            by_cases he : m = j
            · simp [he]
            · rw [if_neg (by omega), if_neg (by omega)]
          · rw [if_neg hj, if_neg (by omega)]; rfl
        · rw [if_neg hp, Tr.find_succ]
          by_cases hj : j % 2 = 0
          · rw [if_pos hj, if_neg (by omega)]; rfl
          · rw [if_neg hj, ih _ _ _ hm]
            by_cases he : m = j
            · simp [he]
            · rw [if_neg (by omega), if_neg (by omega)]

theorem Tr.find_set {α : Type} (t : Tr α) : ∀ (i j : Nat) (a : Option α), (t.set i a).find j = if i = j then a else t.find j := by
  induction t with
  | nil =>
    intro i j a
    rw [Tr.set_nil, Tr.find_lone _ _ _ _ (by omega)]; rfl
  | node l v r ihl ihr =>
    intro i j a
    cases i with
    | zero =>
      rw [Tr.set_zero]
      cases j with
      | zero => simp
      | succ j => rw [Tr.find_succ, Tr.find_succ]; simp
    | succ i =>
      rw [Tr.set_succ]
      cases j with
      | zero => split <;> simp
      | succ j =>
        rw [Tr.find_succ]
        by_cases hi : i % 2 = 0
        · rw [if_pos hi, Tr.find_succ, ihl]
          by_cases hj : j % 2 = 0
          · rw [if_pos hj, if_pos hj]
            by_cases he : i = j
            · simp [he]
            · rw [if_neg (by omega), if_neg (by omega)]
          · rw [if_neg hj, if_neg hj, if_neg (by omega)]
        · rw [if_neg hi, Tr.find_succ, ihr]
          by_cases hj : j % 2 = 0
          · rw [if_pos hj, if_pos hj, if_neg (by omega)]
          · rw [if_neg hj, if_neg hj]
            by_cases he : i = j
            · simp [he]
            · rw [if_neg (by omega), if_neg (by omega)]

theorem Tr.find_set_same {α : Type} (t : Tr α) (i : Nat) (a : Option α) : (t.set i a).find i = a := by simp [Tr.find_set]
theorem Tr.find_set_other {α : Type} (t : Tr α) {i j : Nat} (h : i ≠ j) (a : Option α) : (t.set i a).find j = t.find j := by simp [Tr.find_set, h]

theorem half_get {α : Type} (l : List α) : ∀ i : Nat, (half l true)[i]? = l[2 * i]? ∧ (half l false)[i]? = l[2 * i + 1]? := by
  induction l with
  | nil => intro i; exact ⟨rfl, rfl⟩
  | cons a l ih =>
    intro i
    have e1 : half (a :: l) true = a :: half l false := rfl
    have e2 : half (a :: l) false = half l true := rfl
    rw [e1, e2]
    constructor
    · cases i with
      | zero => rfl
      | succ i => rw [List.getElem?_cons_succ, (ih i).2, show 2 * (i + 1) = (2 * i + 1) + 1 from by omega, List.getElem?_cons_succ]
    · rw [(ih i).1, List.getElem?_cons_succ]

theorem Tr.find_ofList {α : Type} (n : Nat) : ∀ (l : List α) (i : Nat) (a : α), (Tr.ofList n l).find i = some a → l[i]? = some a := by
  induction n with
  | zero => intro l i a h; cases h
  | succ n ih =>
    intro l i a h
    cases l with
    | nil => cases h
    | cons b l =>
      have e : Tr.ofList (n + 1) (b :: l) = .node (Tr.ofList n (half l true)) (some b) (Tr.ofList n (half l false)) := rfl
      rw [e] at h
      cases i with
      | zero => exact h
      | succ i =>
        rw [Tr.find_succ] at h
        rw [List.getElem?_cons_succ]
        by_cases hp : i % 2 = 0
        · rw [if_pos hp] at h
          have := ih _ _ _ h
          rw [(half_get l _).1] at this
          rwa [show 2 * (i / 2) = i from by omega] at this
        · rw [if_neg hp] at h
          have := ih _ _ _ h
          rw [(half_get l _).2] at this
          rwa [show 2 * (i / 2) + 1 = i from by omega] at this

/-! ### Lists -/
section lists
variable {α : Type}
@[simp] theorem lapp_eq (l k : List α) : lapp l k = l ++ k := by
  induction l with
  | nil => rfl
  | cons a l ih => show a :: lapp l k = _; rw [ih]; rfl
@[simp] theorem isNilL_eq (l : List α) : isNilL l = l.isEmpty := by cases l <;> rfl
@[simp] theorem ldrop_eq (l : List α) : ∀ n, ldrop l n = l.drop n := by
  induction l with
  | nil => intro n; simp; rfl
  | cons a l ih =>
    intro n
    cases n with
    | zero => rfl
    | succ n => show ldrop l n = _; rw [ih]; rfl
@[simp] theorem lget_eq (l : List α) : ∀ n, lget l n = l[n]? := by
  induction l with
  | nil => intro n; rfl
  | cons a l ih =>
    intro n
    cases n with
    | zero => rfl
    | succ n => show lget l n = _; rw [ih]; rfl
@[simp] theorem llen_eq (l : List α) : llen l = l.length := by
  induction l with
  | nil => rfl
  | cons a l ih => show Nat.succ (llen l) = _; rw [ih]; rfl
theorem ltake_eq (n : Nat) : ∀ l : List α, ltake n l = if n ≤ l.length then some (l.take n) else none := by
  induction n with
  | zero => intro l; simp; rfl
  | succ n ih =>
    intro l
    cases l with
    | nil => simp; rfl
    | cons a l =>
      show ob (ltake n l) (fun r => some (a :: r)) = _
      rw [ih]
      by_cases h : n ≤ l.length
      · simp [h]
      · simp [h]
theorem segment_eq (cs : List α) (off n : Nat) : segment cs off n = if n ≤ cs.length - off then some ((cs.drop off).take n) else none := by
  unfold segment; rw [ltake_eq, ldrop_eq, List.length_drop]
theorem segment_some {cs r : List α} {off n : Nat} (h : segment cs off n = some r) : r = (cs.drop off).take n ∧ r.length = n ∧ (∀ i, i < n → r[i]? = cs[off + i]?) := by
  rw [segment_eq] at h
  split at h
  · rename_i hle
    have hr : r = (cs.drop off).take n := by injection h with h; exact h.symm
    refine ⟨hr, by rw [hr]; simp; omega, fun i hi => ?_⟩
    rw [hr, List.getElem?_take, if_pos hi, List.getElem?_drop]
  · cases h
theorem lover_eq (vs : List α) : ∀ l : List α, lover vs l = if vs.length ≤ l.length then some (vs ++ l.drop vs.length) else none := by
  induction vs with
  | nil => intro l; simp; rfl
  | cons v vs ih =>
    intro l
    cases l with
    | nil => simp; rfl
    | cons a l =>
      show ob (lover vs l) (fun r => some (v :: r)) = _
      rw [ih]
      by_cases h : vs.length ≤ l.length
      · simp [h]
      · simp [h]
theorem lsplice_eq (n : Nat) (vs : List α) : ∀ l : List α, lsplice n vs l = if n + vs.length ≤ l.length then some (l.take n ++ vs ++ l.drop (n + vs.length)) else none := by
  induction n with
  | zero =>
    intro l
    show lover vs l = _
    rw [lover_eq]; simp
  | succ n ih =>
    intro l
    cases l with
    | nil => simp; rfl
    | cons a l =>
      show ob (lsplice n vs l) (fun r => some (a :: r)) = _
      rw [ih]
      by_cases h : n + vs.length ≤ l.length
      · have h' : n + 1 + vs.length ≤ (a :: l).length := by simp; omega
        rw [if_pos h']
        simp [h, show n + 1 + vs.length = n + vs.length + 1 from by omega]
      · have h' : ¬ n + 1 + vs.length ≤ l.length + 1 := by omega
        simp [h, h']
theorem lsplice_some {n : Nat} {vs l r : List α} (h : lsplice n vs l = some r) :
    n + vs.length ≤ l.length ∧ r.length = l.length ∧ (∀ i, r[i]? = if n ≤ i ∧ i < n + vs.length then vs[i - n]? else l[i]?) ∧ r = l.take n ++ vs ++ l.drop (n + vs.length) := by
  rw [lsplice_eq] at h
  split at h
  · rename_i hle
    have hr : r = l.take n ++ vs ++ l.drop (n + vs.length) := by injection h with h; exact h.symm
    refine ⟨hle, by rw [hr]; simp; omega, fun i => ?_, hr⟩
    rw [hr, List.append_assoc, List.getElem?_append, List.length_take, Nat.min_eq_left (by omega)]
    by_cases h1 : i < n
    · rw [if_pos h1, if_neg (by omega), List.getElem?_take, if_pos h1]
    · rw [if_neg h1, List.getElem?_append]
      by_cases h2 : i - n < vs.length
      · rw [if_pos h2, if_pos (by omega)]
      · rw [if_neg h2, if_neg (by omega), List.getElem?_drop]
        congr 1; omega
  · cases h
theorem lrep_eq (z : List α) (n : Nat) : lrep z n = (List.replicate n z).flatten := by
  induction n with
  | zero => rfl
  | succ n ih => show lapp z (lrep z n) = _; rw [ih, lapp_eq, List.replicate_succ, List.flatten_cons]
@[simp] theorem lset_eq (l : List α) (a : α) : ∀ n, lset l a n = l.set n a := by
  induction l with
  | nil => intro n; rfl
  | cons b l ih =>
    intro n
    cases n with
    | zero => rfl
    | succ n => show b :: lset l a n = _; rw [ih]; rfl
@[simp] theorem lerase_eq (l : List α) : ∀ n, lerase l n = l.eraseIdx n := by
  induction l with
  | nil => intro n; rfl
  | cons b l ih =>
    intro n
    cases n with
    | zero => rfl
    | succ n => show b :: lerase l n = _; rw [ih]; rfl
theorem optAll_eq {β : Type} (f : α → Option β) : ∀ (l : List α) (r : List β), optAll f l = some r ↔ l.map f = r.map some := by
  intro l
  induction l with
  | nil => intro r; show some [] = some r ↔ _; cases r <;> simp
  | cons a l ih =>
    intro r
    show ob (f a) (fun b => ob (optAll f l) fun bs => some (b :: bs)) = some r ↔ _
    rw [ob_eq_some]
    constructor
    · rintro ⟨b, hb, h⟩
      rw [ob_eq_some] at h
      obtain ⟨bs, hbs, h⟩ := h
      injection h with h
      subst h
      simp [hb, (ih bs).1 hbs]
    · intro h
      cases r with
      | nil => simp at h
      | cons b bs =>
        simp only [List.map_cons, List.cons.injEq] at h
        exact ⟨b, h.1, by rw [ob_eq_some]; exact ⟨bs, (ih bs).2 h.2, rfl⟩⟩
end lists

theorem rowOf_eq (cs rear : List AV) : rowOf cs rear = row cs rear := by
  have : ∀ (r : List AV) (t : List AV), (List.rec (motive := fun _ => List AV → List AV) (fun t => lapp cs t) (fun a _ ih t => ih (a :: t)) r : List AV → List AV) t = cs ++ (r.reverse ++ t) := by
    intro r
    induction r with
    | nil => intro t; show lapp cs t = _; rw [lapp_eq]; rfl
    | cons a r ih => intro t; show (List.rec (motive := fun _ => List AV → List AV) (fun t => lapp cs t) (fun a _ ih t => ih (a :: t)) r : List AV → List AV) (a :: t) = _; rw [ih]; simp
  have h := this rear []
  simp only [List.append_nil] at h
  exact h
theorem rowOf_if (cs rear : List AV) : bi (isNilL rear) cs (rowOf cs rear) = row cs rear := by
  cases rear with
  | nil => simp [row]
  | cons a r => rw [rowOf_eq]; rfl
theorem revOn_eq (cs rear : List AV) : revOn cs rear = cs.reverse ++ rear := by
  have : ∀ (c : List AV) (r : List AV), (List.rec (motive := fun _ => List AV → List AV) (fun r => r) (fun a _ ih r => ih (a :: r)) c : List AV → List AV) r = c.reverse ++ r := by
    intro c
    induction c with
    | nil => intro r; rfl
    | cons a c ih => intro r; show (List.rec (motive := fun _ => List AV → List AV) (fun r => r) (fun a _ ih r => ih (a :: r)) c : List AV → List AV) (a :: r) = _; rw [ih]; simp
  exact this cs rear
theorem row_revOn (a b cs : List AV) : row a (revOn cs b) = row a b ++ cs := by simp [row, revOn_eq]

end Go.Proofs.YtbcnedhhebjhdaaGreatDoor.Fa

/-
  The evaluator's types and operands against the program's.
-/
namespace Go.Proofs.YtbcnedhhebjhdaaGreatDoor.Fa

structure EnvOk (P : Program) (E : Env0) : Prop where
  ty : ∀ t i, E.ty.find t = some i → P.info? t = some i
  fn : ∀ (f : Nat) (F : Func), E.fn.find f = some F → P.funcs[f]? = some F
  stood : ∀ t, E.stood t = P.stoodInHeld t
  guarded : ∀ t, E.guarded t = P.eqGuardType P.depth t
  nums : ∀ (f : Nat) (F : Func), P.funcs[f]? = some F → F.body.isSome = true → (F.name == "runtime.NumGoroutine") = false
  fields : ∀ t i, E.type t = some i → ∀ fs, P.underlying t = some (.struct fs) → ∀ f ∈ fs.toList, ∃ x, P.info? f.type = some x

/-- What the evaluator knows of a type. -/
structure TyOk (P : Program) (E : Env0) (t : TypeId) (i : ATy) : Prop where
  info : ∃ x, P.info? t = some x ∧ i.size = x.size ∧ i.bytes = x.bytes ∧ i.comparable = x.comparable ∧ i.zero = ob x.zero ofValue
  under : ∃ d, P.underlying t = some d ∧ i.desc = ofDesc d
  stood : i.stood = P.stoodInHeld t
  guarded : i.guarded = P.eqGuardType P.depth t

theorem EnvOk.tyOk {P : Program} {E : Env0} (h : EnvOk P E) {t : TypeId} {i : ATy} (hi : E.type t = some i) : TyOk P E t i := by
  unfold Env0.type at hi
  rw [ob_eq_some] at hi
  obtain ⟨x, hx, hi⟩ := hi
  have hp := h.ty t x hx
  unfold tyFrom at hi
  split at hi
  · rename_i n u hd
    rw [ob_eq_some] at hi
    obtain ⟨j, hj, hi⟩ := hi
    injection hi with hi
    subst hi
    have hpj := h.ty u j hj
    refine ⟨⟨x, hp, rfl, rfl, rfl, rfl⟩, ⟨j.desc, ?_, rfl⟩, h.stood t, h.guarded t⟩
    unfold Program.underlying
    rw [hp]
    obtain ⟨desc, str, size, bytes, hasPointers, align, fieldAlign, zero, comparable, methods⟩ := x
    simp only at hd
    subst hd
    simp [hpj]
  · rename_i hd
    injection hi with hi
    subst hi
    refine ⟨⟨x, hp, rfl, rfl, rfl, rfl⟩, ⟨x.desc, ?_, rfl⟩, h.stood t, h.guarded t⟩
    unfold Program.underlying
    rw [hp]
    split
    · rename_i u _ _ _ _ _ _ _ _ _ heq
      injection heq with heq
      exact absurd (by rw [heq]) (hd _ u)
    · rename_i y _ heq
      injection heq with heq
      rw [heq]
    · rename_i heq; cases heq

section
variable {P : Program} {E : Env0} {t : TypeId} {i : ATy} {w : World}
theorem TyOk.run_underlying (h : TyOk P E t i) : ∃ d, P.underlying t = some d ∧ i.desc = ofDesc d ∧ ∀ w, (underlying t).run P w = .ok d w := by
  obtain ⟨d, hd, he⟩ := h.under
  exact ⟨d, hd, he, fun w => by simp [underlying, hd]⟩
theorem TyOk.run_typeInfo (h : TyOk P E t i) : ∃ x, P.info? t = some x ∧ i.size = x.size ∧ i.bytes = x.bytes ∧ i.comparable = x.comparable ∧ i.zero = ob x.zero ofValue ∧ ∀ w, (typeInfo t).run P w = .ok x w := by
  obtain ⟨x, hx, a, b, c, d⟩ := h.info
  exact ⟨x, hx, a, b, c, d, fun w => by simp [typeInfo, hx]⟩
theorem TyOk.run_sizeOf (h : TyOk P E t i) (w : World) : (sizeOf t).run P w = .ok i.size w := by
  obtain ⟨x, hx, a, b, c, d, e⟩ := h.run_typeInfo
  simp [sizeOf, e, a]
theorem TyOk.run_isAgg (h : TyOk P E t i) (w : World) : (isAgg t).run P w = .ok (isAggD i.desc) w := by
  obtain ⟨d, hd, he, hr⟩ := h.run_underlying
  unfold isAgg
  simp only [Sem.run_bind, hr, Result.andThen_ok, he]
  cases d <;> rfl
end

theorem EnvOk.run_size {P : Program} {E : Env0} (h : EnvOk P E) {t : TypeId} {s : Nat} (hs : E.size t = some s) (w : World) : (sizeOf t).run P w = .ok s w := by
  unfold Env0.size at hs
  rw [ob_eq_some] at hs
  obtain ⟨i, hi, hs⟩ := hs
  injection hs with hs
  rw [← hs]
  exact (h.tyOk hi).run_sizeOf w

/-! ### which description it is -/
section
variable {α : Type} {d : TypeDesc}
theorem onStruct_some {α : Type} {k : List (TypeId × Nat × Bool) → Option α} {d : TypeDesc} {r : α} (h : onStruct none k (ofDesc d) = some r) :
    ∃ fs, d = .struct fs ∧ k (fs.toList.map fun f => (f.type, f.offset, f.name == "_")) = some r := by
  cases d <;> first | (cases h; done) | exact ⟨_, rfl, h⟩
theorem onSliceD_some {α : Type} {k : TypeId → Option α} {d : TypeDesc} {r : α} (h : onSliceD none k (ofDesc d) = some r) : ∃ e, d = .slice e ∧ k e = some r := by
  cases d <;> first | (cases h; done) | exact ⟨_, rfl, h⟩
theorem onArrayD_some {α : Type} {k : Nat → TypeId → Option α} {d : TypeDesc} {r : α} (h : onArrayD none k (ofDesc d) = some r) : ∃ n e, d = .array n e ∧ k n e = some r := by
  cases d <;> first | (cases h; done) | exact ⟨_, _, rfl, h⟩
theorem onMapD_some {α : Type} {k : TypeId → TypeId → Option α} {d : TypeDesc} {r : α} (h : onMapD none k (ofDesc d) = some r) : ∃ a b, d = .map a b ∧ k a b = some r := by
  cases d <;> first | (cases h; done) | exact ⟨_, _, rfl, h⟩
theorem onIntD_some {α : Type} {k : IntKind → Option α} {d : TypeDesc} {r : α} (h : onIntD none k (ofDesc d) = some r) : ∃ j, d = .int j ∧ k j = some r := by
  cases d <;> first | (cases h; done) | exact ⟨_, rfl, h⟩
theorem isStringD_true {d : TypeDesc} (h : isStringD (ofDesc d) = true) : d = .string := by
  cases d <;> first | rfl | (cases h; done)
end

/-! ### Constants -/
theorem toArray_data (s : ByteArray) : (⟨s.data.toList.toArray⟩ : ByteArray) = s := by cases s; simp
theorem ofAtom_g {ε : Env} {D : Nat → Prop} {c : Value} {v : AV} (h : ofAtom c = some v) : g ε v = c ∧ okv D ε v ∧ one1 v = true := by
  unfold ofAtom at h
  split at h <;> first | (cases h; done) | (injection h with h; subst h; simp [g, okv, one1])
theorem ofAtoms_g {ε : Env} {D : Nat → Prop} : ∀ (cs : List Value) (l : List AV), optAll ofAtom cs = some l → l.map (g ε) = cs ∧ ∀ x ∈ l, okv D ε x ∧ one1 x = true := by
  intro cs
  induction cs with
  | nil => intro l h; injection h with h; subst h; simp
  | cons c cs ih =>
    intro l h
    have h' : ob (ofAtom c) (fun b => ob (optAll ofAtom cs) fun bs => some (b :: bs)) = some l := h
    rw [ob_eq_some] at h'
    obtain ⟨b, hb, h'⟩ := h'
    rw [ob_eq_some] at h'
    obtain ⟨bs, hbs, h'⟩ := h'
    injection h' with h'
    subst h'
    obtain ⟨h1, h2, h3⟩ := ofAtom_g (ε := ε) (D := D) hb
    obtain ⟨h4, h5⟩ := ih bs hbs
    refine ⟨by simp [h1, h4], fun x hx => ?_⟩
    rcases List.mem_cons.1 hx with hx | hx
    · rw [hx]; exact ⟨h2, h3⟩
    · exact h5 x hx
theorem ofFlat_g {ε : Env} {D : Nat → Prop} {c : Value} {v : AV} (h : ofFlat c = some v) : g ε v = c ∧ okv D ε v := by
  unfold ofFlat at h
  split at h
  · rename_i cs
    rw [ob_eq_some] at h
    obtain ⟨l, hl, h⟩ := h
    injection h with h
    subst h
    obtain ⟨h1, h2⟩ := ofAtoms_g (ε := ε) (D := D) _ _ hl
    exact ⟨by simp [g, h1], by simp only [okv]; exact h2⟩
  · exact ⟨(ofAtom_g (ε := ε) (D := D) h).1, (ofAtom_g (ε := ε) (D := D) h).2.1⟩
theorem ofFlats_g {ε : Env} {D : Nat → Prop} : ∀ (cs : List Value) (l : List AV), optAll ofFlat cs = some l → l.map (g ε) = cs ∧ ∀ x ∈ l, okv D ε x := by
  intro cs
  induction cs with
  | nil => intro l h; injection h with h; subst h; simp
  | cons c cs ih =>
    intro l h
    have h' : ob (ofFlat c) (fun b => ob (optAll ofFlat cs) fun bs => some (b :: bs)) = some l := h
    rw [ob_eq_some] at h'
    obtain ⟨b, hb, h'⟩ := h'
    rw [ob_eq_some] at h'
    obtain ⟨bs, hbs, h'⟩ := h'
    injection h' with h'
    subst h'
    obtain ⟨h1, h2⟩ := ofFlat_g (ε := ε) (D := D) hb
    obtain ⟨h4, h5⟩ := ih bs hbs
    refine ⟨by simp [h1, h4], fun x hx => ?_⟩
    rcases List.mem_cons.1 hx with hx | hx
    · rw [hx]; exact h2
    · exact h5 x hx
theorem ofValue_g {ε : Env} {D : Nat → Prop} {c : Value} {v : AV} (h : ofValue c = some v) : g ε v = c ∧ okv D ε v := by
  unfold ofValue at h
  split at h
  · rename_i cs
    rw [ob_eq_some] at h
    obtain ⟨l, hl, h⟩ := h
    injection h with h
    subst h
    obtain ⟨h1, h2⟩ := ofFlats_g (ε := ε) (D := D) _ _ hl
    exact ⟨by simp [g, h1], by simp only [okv]; exact h2⟩
  · exact ofFlat_g h

/-! ### Operands -/
/-- The program's variables lie at their own numbers. -/
def GlobOk (D : Nat → Prop) (ε : Env) : Prop := ∀ i, i < globs → D i ∧ ε.blk i = i ∧ ε.sft i = 0

theorem GlobOk.agree {D D' : Nat → Prop} {ε ε' : Env} (h : GlobOk D ε) (ha : Agree D ε ε') (hd : ∀ i, D i → D' i) : GlobOk D' ε' := fun i hi => by
  obtain ⟨a, b, c⟩ := h i hi
  exact ⟨hd i a, by rw [(ha i a).1, b], by rw [(ha i a).2.1, c]⟩

/-- What an operation may look at: the temporaries named, as the region and the frame know them. -/
def Reads (D : Nat → Prop) (ε : Env) (lc : Lc) (fr : Tr AV) (a : Act) (l : List Nat) : Prop := ∀ t, t ∈ l → ∀ v, lc.get fr t = some v → a.tmps.getD t undef = g ε v ∧ okv D ε v

theorem gt_tmp (t : Nat) (lc : Lc) (fr : Tr AV) : gt (.tmp t) lc fr = lc.get fr t := rfl
theorem gt_val (v : Option AV) (lc : Lc) (fr : Tr AV) : gt (.val v) lc fr = v := rfl

theorem gt_ok {D : Nat → Prop} {ε : Env} {lc : Lc} {fr : Tr AV} {a : Act} {l : List Nat} (hg : GlobOk D ε) (hr : Reads D ε lc fr a l) {x : Operand} {v : AV}
    (h : gt (cOpd x) lc fr = some v) (hx : ∀ t, x = .tmp t → t ∈ l) : a.eval x = g ε v ∧ okv D ε v := by
  cases x with
  | tmp t =>
    have h' : lc.get fr t = some v := h
    exact hr t (hx t rfl) v h'
  | const c =>
    have h' : ofValue c = some v := h
    obtain ⟨h1, h2⟩ := ofValue_g (ε := ε) (D := D) h'
    exact ⟨h1.symm, h2⟩
  | global i =>
    have h' : globOf i = some v := h
    unfold globOf at h'
    rw [bi_eq] at h'
    split at h'
    · rename_i hlt
      have hlt' : i < globs := by simpa [Nat.blt_eq] using hlt
      injection h' with h'
      subst h'
      obtain ⟨h1, h2, h3⟩ := hg i hlt'
      exact ⟨by simp [Act.eval, g, h2, h3], by simp only [okv]; exact h1⟩
    · cases h'
  | func f =>
    have h' : some (AV.fn (.func f) [] []) = some v := h
    injection h' with h'
    subst h'
    exact ⟨by simp [Act.eval, g, gFn], by simp [okv]⟩

theorem mem_r1 (x : Operand) (l : List Nat) : (∀ t, x = .tmp t → t ∈ r1 x l) ∧ (∀ t, t ∈ l → t ∈ r1 x l) := by
  cases x with
  | tmp u => exact ⟨fun t h => by injection h with h; subst h; exact List.mem_cons_self, fun t h => List.mem_cons_of_mem _ h⟩
  | const c => exact ⟨fun t h => (by cases h), fun t h => h⟩
  | global i => exact ⟨fun t h => (by cases h), fun t h => h⟩
  | func f => exact ⟨fun t h => (by cases h), fun t h => h⟩
theorem mem_rs (xs : List Operand) (l : List Nat) : (∀ x, x ∈ xs → ∀ t, x = .tmp t → t ∈ rs xs l) ∧ (∀ t, t ∈ l → t ∈ rs xs l) := by
  induction xs with
  | nil => exact ⟨fun x h => (by cases h), fun t h => h⟩
  | cons y ys ih =>
    refine ⟨fun x hx t ht => ?_, fun t ht => (mem_r1 y _).2 t (ih.2 t ht)⟩
    rcases List.mem_cons.1 hx with hx | hx
    · subst hx; exact (mem_r1 x _).1 t ht
    · exact (mem_r1 y _).2 t (ih.1 x hx t ht)
theorem mem_rps (xs : List (Nat × Operand)) (l : List Nat) : (∀ x, x ∈ xs → ∀ t, x.2 = .tmp t → t ∈ rps xs l) ∧ (∀ t, t ∈ l → t ∈ rps xs l) := by
  induction xs with
  | nil => exact ⟨fun x h => (by cases h), fun t h => h⟩
  | cons y ys ih =>
    refine ⟨fun x hx t ht => ?_, fun t ht => (mem_r1 y.2 _).2 t (ih.2 t ht)⟩
    rcases List.mem_cons.1 hx with hx | hx
    · subst hx; exact (mem_r1 x.2 _).1 t ht
    · exact (mem_r1 y.2 _).2 t (ih.1 x hx t ht)
theorem mem_ro (x : Option Operand) (l : List Nat) : (∀ y, x = some y → ∀ t, y = .tmp t → t ∈ ro x l) ∧ (∀ t, t ∈ l → t ∈ ro x l) := by
  cases x with
  | none => exact ⟨fun x h => (by cases h), fun t h => h⟩
  | some y => exact ⟨fun z hz t ht => by injection hz with hz; subst hz; exact (mem_r1 y _).1 t ht, fun t h => (mem_r1 y _).2 t h⟩

end Go.Proofs.YtbcnedhhebjhdaaGreatDoor.Fa

/-
  The quiet operations, against the model's: what is not a constant of memory's.
-/
namespace Go.Proofs.YtbcnedhhebjhdaaGreatDoor.Fa

/-! ### Taking the small words apart -/
section elim
variable {α β : Type} {Φ : β → Prop}
theorem oq_elim {Φ : QR → Prop} {x : Option α} {k : α → QR} (h0 : Φ .fail) (h : ∀ v, x = some v → Φ (k v)) : Φ (oq x k) := by
  cases x with
  | none => exact h0
  | some v => exact h v rfl
theorem ob_elim {Φ : Option β → Prop} {x : Option α} {k : α → Option β} (h0 : Φ none) (h : ∀ v, x = some v → Φ (k v)) : Φ (ob x k) := by
  cases x with
  | none => exact h0
  | some v => exact h v rfl
theorem bi_elim {b : Bool} {x y : β} (h1 : b = true → Φ x) (h2 : b = false → Φ y) : Φ (bi b x y) := by cases b <;> simp_all
theorem onBool_elim {d : β} {k : Bool → β} {v : AV} (h0 : Φ d) (h : ∀ b, v = .bool b → Φ (k b)) : Φ (onBool d k v) := by cases v <;> first | exact h _ rfl | exact h0
theorem onInt_elim {d : β} {k : IntKind → Int → β} {v : AV} (h0 : Φ d) (h : ∀ j n, v = .int j n → Φ (k j n)) : Φ (onInt d k v) := by cases v <;> first | exact h _ _ rfl | exact h0
theorem onStr_elim {d : β} {k : List UInt8 → β} {v : AV} (h0 : Φ d) (h : ∀ s, v = .str s → Φ (k s)) : Φ (onStr d k v) := by cases v <;> first | exact h _ rfl | exact h0
theorem onPtr_elim {d : β} {k : Nat → Nat → β} {v : AV} (h0 : Φ d) (h : ∀ i o, v = .ptr i o → Φ (k i o)) : Φ (onPtr d k v) := by cases v <;> first | exact h _ _ rfl | exact h0
theorem onSlc_elim {d nl : β} {k : Nat → Nat → Nat → ACap → β} {v : AV} (h0 : Φ d) (hn : v = .nilSlc → Φ nl) (h : ∀ i o n c, v = .slc i o n c → Φ (k i o n c)) : Φ (onSlc d nl k v) := by cases v <;> first | exact h _ _ _ _ rfl | exact hn rfl | exact h0
theorem onMap_elim {d nl : β} {k : Nat → β} {v : AV} (h0 : Φ d) (hn : v = .nilMap → Φ nl) (h : ∀ i, v = .map i → Φ (k i)) : Φ (onMap d nl k v) := by cases v <;> first | exact h _ rfl | exact hn rfl | exact h0
theorem onFn_elim {d : β} {k : Fn → List AV → List AV → β} {v : AV} (h0 : Φ d) (h : ∀ f a b, v = .fn f a b → Φ (k f a b)) : Φ (onFn d k v) := by cases v <;> first | exact h _ _ _ rfl | exact h0
theorem onIface_elim {d nl : β} {k : TypeId → AV → β} {v : AV} (h0 : Φ d) (hn : v = .nilIface → Φ nl) (h : ∀ t x, v = .iface t x → Φ (k t x)) : Φ (onIface d nl k v) := by cases v <;> first | exact h _ _ rfl | exact hn rfl | exact h0
theorem onAgg_elim {d : β} {k : List AV → β} {v : AV} (h0 : Φ d) (h : ∀ cs, v = .agg cs → Φ (k cs)) : Φ (onAgg d k v) := by cases v <;> first | exact h _ rfl | exact h0
theorem onTup_elim {d : β} {k : List AV → β} {v : AV} (h0 : Φ d) (h : ∀ cs, v = .tup cs → Φ (k cs)) : Φ (onTup d k v) := by cases v <;> first | exact h _ rfl | exact h0
theorem onNat_elim {d : β} {k : Nat → β} {n : Int} (h0 : Φ d) (h : ∀ m : Nat, n = Int.ofNat m → Φ (k m)) : Φ (onNat d k n) := by cases n <;> first | exact h _ rfl | exact h0
theorem onCells_elim {d : β} {k : List AV → List AV → Option (Nat × Nat) → Bool → β} {b : ABlk} (h0 : Φ d) (h : ∀ cs r o s, b = .cells cs r o s → Φ (k cs r o s)) : Φ (onCells d k b) := by cases b <;> first | exact h _ _ _ _ rfl | exact h0
theorem onMapB_elim {d : β} {k : List Ent → Nat → β} {b : ABlk} (h0 : Φ d) (h : ∀ es c, b = .map es c → Φ (k es c)) : Φ (onMapB d k b) := by cases b <;> first | exact h _ _ rfl | exact h0
end elim

/-! ### What a quiet operation's run must be -/
def Plus (D : Nat → Prop) (n : Nat) : Nat → Prop := fun i => D i ∨ i = n

/-- The streams are as they were. -/
def SameOs (w w' : World) : Prop := w'.os = w.os ∧ w'.tape = w.tape ∧ w'.output = w.output
theorem SameOs.refl (w : World) : SameOs w w := ⟨rfl, rfl, rfl⟩
theorem SameOs.trans {a b c : World} (h : SameOs a b) (k : SameOs b c) : SameOs a c := ⟨k.1.trans h.1, k.2.1.trans h.2.1, k.2.2.trans h.2.2⟩

def QRes (D : Nat → Prop) (ε : Env) (n : Nat) (w : World) (r : QR) (res : Result Next) : Prop := match r with
  | .fail => True
  | .val v => ∃ w', res = .ok (.value (g ε v)) w' ∧ w'.heap = w.heap ∧ SameOs w w' ∧ okv D ε v
  | .made v b => ∃ w' o ε', res = .ok (.value (g ε' v)) w' ∧ w'.heap = w.heap.push o ∧ SameOs w w' ∧ Agree D ε ε' ∧ ε'.blk n = w.heap.size ∧ okv (Plus D n) ε' v ∧ BlkOk (Plus D n) ε' n b o
  | .resv v => ∃ w' ε', res = .ok (.value (g ε' v)) w' ∧ w'.heap = w.heap ∧ SameOs w w' ∧ Agree D ε ε' ∧ okv (Plus D n) ε' v

theorem QRes.mkVal {D : Nat → Prop} {ε : Env} {n : Nat} {w : World} {v : AV} {res : Result Next} (h : res = .ok (.value (g ε v)) w) (ho : okv D ε v) : QRes D ε n w (.val v) res := ⟨w, h, rfl, .refl w, ho⟩

/-- An id's own reading, set. -/
def Env.at (ε : Env) (n b s e : Nat) : Env := { blk := fun i => if i = n then b else ε.blk i, sft := fun i => if i = n then s else ε.sft i, ext := fun i => if i = n then e else ε.ext i }
theorem Env.at_blk (ε : Env) (n b s e : Nat) : (ε.at n b s e).blk n = b := by simp [Env.at]
theorem Env.at_sft (ε : Env) (n b s e : Nat) : (ε.at n b s e).sft n = s := by simp [Env.at]
theorem Env.at_ext (ε : Env) (n b s e : Nat) : (ε.at n b s e).ext n = e := by simp [Env.at]
theorem Env.at_agree {D : Nat → Prop} {n : Nat} (hn : ¬ D n) (ε : Env) (b s e : Nat) : Agree D ε (ε.at n b s e) := fun i hi => by
  have : i ≠ n := fun h => hn (h ▸ hi)
  simp [Env.at, this]

/-- What is asked of the place at which an operation stands. -/
structure OpAt (P : Program) (E : Env0) (D : Nat → Prop) (ε : Env) (h : Heap) (n : Nat) (w : World) (a : Act) (lc : Lc) (fr : Tr AV) (l : List Nat) : Prop where
  env : EnvOk P E
  glob : GlobOk D ε
  sim : Sim D ε h.find w
  reads : Reads D ε lc fr a l
  new : ¬ D n

section ops
variable {P : Program} {E : Env0} {D : Nat → Prop} {ε : Env} {h : Heap} {n : Nat} {w : World} {a : Act} {lc : Lc} {fr : Tr AV} {l : List Nat}

theorem OpAt.gt (c : OpAt P E D ε h n w a lc fr l) {x : Operand} {v : AV} (hv : gt (cOpd x) lc fr = some v) (hx : ∀ t, x = .tmp t → t ∈ l) : a.eval x = g ε v ∧ okv D ε v :=
  gt_ok c.glob c.reads hv hx

theorem qMove_ok (c : OpAt P E D ε h n w a lc fr l) (x : Operand) (hx : ∀ t, x = .tmp t → t ∈ l) : QRes D ε n w (qMove (cOpd x) lc fr h n) (.ok (.value (a.eval x)) w) := by
  refine oq_elim (Φ := fun r => QRes D ε n w r _) trivial fun v hv => ?_
  obtain ⟨h1, h2⟩ := c.gt hv hx
  exact .mkVal (by rw [h1]) h2

theorem qPick_ok (c : OpAt P E D ε h n w a lc fr l) (p x y : Operand) (hp : ∀ t, p = .tmp t → t ∈ l) (hx : ∀ t, x = .tmp t → t ∈ l) (hy : ∀ t, y = .tmp t → t ∈ l) :
    QRes D ε n w (qPick (cOpd p) (cOpd x) (cOpd y) lc fr h n) ((do pure (.value (if ← asBool (a.eval p) then a.eval x else a.eval y)) : Sem Next).run P w) := by
  refine oq_elim (Φ := fun r => QRes D ε n w r _) trivial fun v hv => ?_
  obtain ⟨h1, h2⟩ := c.gt hv hp
  refine onBool_elim (Φ := fun r => QRes D ε n w r _) trivial fun b hb => ?_
  subst hb
  rw [h1]
  cases b with
  | true =>
    refine oq_elim (Φ := fun r => QRes D ε n w r _) trivial fun v hv => ?_
    obtain ⟨h3, h4⟩ := c.gt hv hx
    exact .mkVal (by simp [asBool, g, h3]) h4
  | false =>
    refine oq_elim (Φ := fun r => QRes D ε n w r _) trivial fun v hv => ?_
    obtain ⟨h3, h4⟩ := c.gt hv hy
    exact .mkVal (by simp [asBool, g, h3]) h4

theorem isTup_false {v : AV} (h : isTup v = false) : (g ε v).cells = (v.cells.map (g ε)).toArray ∧ (okv D ε v → CellsOk D ε v.cells) := by
  cases v with
  | agg cs => exact ⟨by simp [g, Value.cells, AV.cells, onAgg], fun hv => by simp only [okv] at hv; exact hv⟩
  | tup vs => cases h
  | _ => exact ⟨by simp [g, Value.cells, AV.cells, onAgg], fun hv => fun c hc => by simp [AV.cells, onAgg] at hc; subst hc; exact ⟨hv, rfl⟩⟩

/-- A new row of the call's own. -/
theorem newRow_res (c : OpAt P E D ε h n w a lc fr l) {cs : List AV} (hc : CellsOk D ε cs) (T : TypeId) {v : AV} {res : Result Next}
    (hv : ∀ ε', ε' = ε.at n w.heap.size 0 0 → okv (Plus D n) ε' v ∧ res = .ok (.value (g ε' v)) { w with heap := w.heap.push (.cells (cs.map (g ε)).toArray T) }) :
    QRes D ε n w (.made v (.cells cs [] none false)) res := by
  have ha := Env.at_agree c.new ε w.heap.size 0 0
  obtain ⟨h1, h2⟩ := hv _ rfl
  refine ⟨_, _, ε.at n w.heap.size 0 0, h2, rfl, ⟨rfl, rfl, rfl⟩, ha, Env.at_blk .., h1, ?_⟩
  have hcs := hc.agree (D' := Plus D n) ha (fun i hi => .inl hi)
  refine ⟨_, T, (0, 0), rfl, ?_, ?_, ?_, fun _ => rfl, fun z hz => by cases hz⟩
  · intro i v hv
    simp only [row, List.reverse_nil, List.append_nil] at hv
    rw [Env.at_sft, Nat.zero_add]
    simp only [List.getElem?_toArray, List.getElem?_map, hv, Option.map_some]
    rw [g_agree ha v (hc v (List.mem_of_getElem? hv)).1]
  · simpa [row] using hcs
  · intro off _; simp

theorem zeroCells_ok (hE : EnvOk P E) {e : TypeId} {z : List AV} (hz : zeroCells E e = some z) : ∃ i v, E.type e = some i ∧ (∀ w, (zeroValue e).run P w = .ok v w) ∧ v.cells = (z.map (g ε)).toArray ∧ CellsOk D ε z ∧ z.length = i.size := by
  unfold zeroCells at hz
  rw [ob_eq_some] at hz
  obtain ⟨i, hi, hz⟩ := hz
  rw [ob_eq_some] at hz
  obtain ⟨v, hv, hz⟩ := hz
  rw [bi_eq] at hz
  split at hz
  · rename_i hc
    injection hz with hz
    subst hz
    obtain ⟨x, hx, _, _, _, hzero, hr⟩ := (hE.tyOk hi).run_typeInfo
    rw [hzero, ob_eq_some] at hv
    obtain ⟨zv, hzv, hof⟩ := hv
    obtain ⟨h1, h2⟩ := ofValue_g (ε := ε) (D := D) hof
    simp only [andb_eq, notb_eq, Bool.and_eq_true, Bool.not_eq_true'] at hc
    obtain ⟨h3, h4⟩ := isTup_false (ε := ε) (D := D) hc.1
    refine ⟨i, zv, hi, fun w => by simp [zeroValue, hr, hzv], by rw [← h1]; exact h3, h4 h2, ?_⟩
    have := hc.2
    rw [llen_eq] at this
    exact Nat.eq_of_beq_eq_true this
  · cases hz

theorem qAlloc_ok (c : OpAt P E D ε h n w a lc fr l) (e : TypeId) {z : List AV} (hz : zeroCells E e = some z) :
    QRes D ε n w (qAlloc z lc fr h n) ((do pure (.value (← Instr.alloc e true (.tuple #[]))) : Sem Next).run P w) := by
  obtain ⟨i, v, hi, hr, hv, hc, _⟩ := zeroCells_ok (ε := ε) (D := D) c.env hz
  refine newRow_res c hc e fun ε' he => ⟨by simp [okv, Plus], ?_⟩
  subst he
  simp [Instr.alloc, hr, newVar, newRow, hv, g, Env.at]

theorem qBox_ok (c : OpAt P E D ε h n w a lc fr l) (e : TypeId) (x : Operand) (hx : ∀ t, x = .tmp t → t ∈ l) :
    QRes D ε n w (qBox (cOpd x) lc fr h n) ((do pure (.value (← Instr.box e (a.eval x))) : Sem Next).run P w) := by
  refine oq_elim (Φ := fun r => QRes D ε n w r _) trivial fun v hv => ?_
  obtain ⟨h1, h2⟩ := c.gt hv hx
  refine bi_elim (Φ := fun r => QRes D ε n w r _) (fun _ => trivial) fun ht => ?_
  obtain ⟨h3, h4⟩ := isTup_false (ε := ε) (D := D) ht
  refine newRow_res c (h4 h2) e fun ε' he => ⟨by simp [okv, Plus], ?_⟩
  subst he
  simp [Instr.box, newVar, newRow, h1, h3, g, Env.at]

end ops
end Go.Proofs.YtbcnedhhebjhdaaGreatDoor.Fa

/-
  The quiet operations, against the model's: places, loads, parts.
-/
namespace Go.Proofs.YtbcnedhhebjhdaaGreatDoor.Fa
section ops
variable {P : Program} {E : Env0} {D : Nat → Prop} {ε : Env} {h : Heap} {n : Nat} {w : World} {a : Act} {lc : Lc} {fr : Tr AV} {l : List Nat}

/-! ### Reading rows -/
theorem rowAt_ok (hs : Sim D ε h.find w) {id : Nat} {cs : List AV} (hr : rowAt h id = some cs) :
    ∃ arr T fz, w.heap[ε.blk id]? = some (.cells arr T fz) ∧ Win ε id cs arr ∧ CellsOk D ε cs := by
  unfold rowAt at hr
  rw [ob_eq_some] at hr
  obtain ⟨b, hb, hr⟩ := hr
  obtain ⟨x, hx, hok⟩ := hs.obj id b hb
  cases b with
  | cells cs' rear o str =>
    have hr' : some (bi (isNilL rear) cs' (rowOf cs' rear)) = some cs := hr
    rw [rowOf_if] at hr'
    injection hr' with hr'
    subst hr'
    obtain ⟨arr, T, fz, rfl, hw, hc, _⟩ := hok
    exact ⟨arr, T, fz, hx, hw, hc⟩
  | ro cs' =>
    have hr' : some cs' = some cs := hr
    injection hr' with hr'
    subst hr'
    obtain ⟨arr, T, fz, rfl, hw, hc⟩ := hok
    exact ⟨arr, T, fz, hx, hw, hc⟩
  | map es c => cases hr
  | strIter s p => cases hr
  | mapIter m s seen last => cases hr
  | loop => cases hr
  | defs => cases hr

theorem cell_ok (hs : Sim D ε h.find w) {id off : Nat} {cs : List AV} {v : AV} (hr : rowAt h id = some cs) (hv : cs[off]? = some v) :
    w.cell? ⟨ε.blk id, ε.sft id + off, none⟩ = some (g ε v) ∧ okv D ε v ∧ one1 v = true := by
  obtain ⟨arr, T, fz, hx, hw, hc⟩ := rowAt_ok hs hr
  refine ⟨?_, hc v (List.mem_of_getElem? hv)⟩
  simp only [World.cell?, hx, Option.isSome_none, Bool.false_eq_true, if_false]
  exact hw off v hv

theorem add_zero_addr (b o : Nat) : (⟨b, o, none⟩ : Addr).add 0 = ⟨b, o, none⟩ := by simp [Addr.add]
theorem add_addr (b o k : Nat) : (⟨b, o, none⟩ : Addr).add k = ⟨b, o + k, none⟩ := by
  unfold Addr.add
  split
  · rename_i h; subst h; rfl
  · rfl

theorem run_loadCellsFrom (P : Program) (w : World) (b o : Nat) : ∀ (m i : Nat) (acc : Array Value) (vs : List Value), vs.length = m → (∀ j, j < m → w.cell? ⟨b, o + (i + j), none⟩ = vs[j]?) →
    (loadCellsFrom ⟨b, o, none⟩ i m acc).run P w = .ok (acc ++ vs.toArray) w := by
  intro m
  induction m with
  | zero =>
    intro i acc vs hl _
    have : vs = [] := List.eq_nil_of_length_eq_zero hl
    subst this
    simp [loadCellsFrom]
  | succ m ih =>
    intro i acc vs hl hc
    cases vs with
    | nil => simp at hl
    | cons v vs =>
      have h0 := hc 0 (by omega)
      simp only [Nat.add_zero, List.getElem?_cons_zero] at h0
      simp only [loadCellsFrom, Sem.run_bind, add_addr, run_load, h0, Result.andThen_ok]
      rw [ih (i + 1) (acc.push v) vs (by simpa using hl) (fun j hj => by
        have := hc (j + 1) (by omega)
        rw [List.getElem?_cons_succ] at this
        rw [show i + 1 + j = i + (j + 1) from by omega]
        exact this)]
      simp

theorem run_loadCells (P : Program) (w : World) (b o m : Nat) (vs : List Value) (hl : vs.length = m) (hc : ∀ j, j < m → w.cell? ⟨b, o + j, none⟩ = vs[j]?) :
    (loadCells ⟨b, o, none⟩ m).run P w = .ok vs.toArray w := by
  unfold loadCells
  rw [run_loadCellsFrom P w b o m 0 #[] vs hl (fun j hj => by rw [Nat.zero_add]; exact hc j hj)]
  simp

theorem readCells_ok (hs : Sim D ε h.find w) {id off m : Nat} {cs : List AV} (hr : readCells h id off m = some cs) :
    (loadCells ⟨ε.blk id, ε.sft id + off, none⟩ m).run P w = .ok (cs.map (g ε)).toArray w ∧ CellsOk D ε cs ∧ cs.length = m := by
  cases m with
  | zero =>
    have hr' : some [] = some cs := hr
    injection hr' with hr'
    subst hr'
    exact ⟨by simp [loadCells, loadCellsFrom], fun c hc => (by cases hc), rfl⟩
  | succ m =>
    have hr' : ob (rowAt h id) (fun cs => segment cs off (m + 1)) = some cs := hr
    rw [ob_eq_some] at hr'
    obtain ⟨rw', hrow, hseg⟩ := hr'
    obtain ⟨h1, h2, h3⟩ := segment_some hseg
    refine ⟨run_loadCells P w _ _ _ _ (by simpa using h2) fun j hj => ?_, ?_, h2⟩
    · have hg : rw'[off + j]? = cs[j]? := (h3 j hj).symm
      cases hcj : cs[j]? with
      | none => simp at hcj; omega
      | some v =>
        rw [hcj] at hg
        obtain ⟨hcell, _⟩ := cell_ok hs hrow hg
        rw [Nat.add_assoc, hcell]
        simp [hcj]
    · obtain ⟨_, _, _, _, _, hc⟩ := rowAt_ok hs hrow
      intro c hcm
      rw [h1] at hcm
      exact hc c (List.mem_of_mem_drop (List.mem_of_mem_take hcm))

theorem qLoad_ok (c : OpAt P E D ε h n w a lc fr l) (t : TypeId) (x : Operand) (hx : ∀ u, x = .tmp u → u ∈ l) {q : QF} (hq : cLoad E t x = some q) :
    QRes D ε n w (q lc fr h n) ((do pure (.value (← Instr.loadAt t (a.eval x))) : Sem Next).run P w) := by
  unfold cLoad at hq
  rw [ob_eq_some] at hq
  obtain ⟨i, hi, hq⟩ := hq
  have hty := c.env.tyOk hi
  rw [bi_eq] at hq
  split at hq
  · rename_i hagg
    injection hq with hq
    subst hq
    refine oq_elim (Φ := fun r => QRes D ε n w r _) trivial fun v hv => ?_
    obtain ⟨h1, h2⟩ := c.gt hv hx
    refine onPtr_elim (Φ := fun r => QRes D ε n w r _) trivial fun id off he => ?_
    subst he
    refine oq_elim (Φ := fun r => QRes D ε n w r _) trivial fun cs hcs => ?_
    obtain ⟨h3, h4, _⟩ := readCells_ok (P := P) c.sim hcs
    refine .mkVal ?_ (by simp only [okv]; exact h4)
    simp [Instr.loadAt, Instr.sureAddr, loadVar, h1, g, hty.run_isAgg, hagg, hty.run_sizeOf, h3]
  · rename_i hagg
    injection hq with hq
    subst hq
    refine oq_elim (Φ := fun r => QRes D ε n w r _) trivial fun v hv => ?_
    obtain ⟨h1, h2⟩ := c.gt hv hx
    refine onPtr_elim (Φ := fun r => QRes D ε n w r _) trivial fun id off he => ?_
    subst he
    refine oq_elim (Φ := fun r => QRes D ε n w r _) trivial fun cs hcs => ?_
    refine oq_elim (Φ := fun r => QRes D ε n w r _) trivial fun u hu => ?_
    rw [lget_eq] at hu
    obtain ⟨h3, h4, _⟩ := cell_ok c.sim hcs hu
    refine .mkVal ?_ h4
    simp [Instr.loadAt, Instr.sureAddr, loadVar, h1, g, hty.run_isAgg, hagg, h3]

/-! ### Places -/
theorem qFieldAddr_ok (c : OpAt P E D ε h n w a lc fr l) (t : TypeId) (x : Operand) (f : Nat) (hx : ∀ u, x = .tmp u → u ∈ l) {q : QF} (hq : cFieldAddr E t x f = some q) :
    QRes D ε n w (q lc fr h n) ((do pure (.value (← Instr.fieldAt t (a.eval x) f)) : Sem Next).run P w) := by
  unfold cFieldAddr at hq
  rw [ob_eq_some] at hq
  obtain ⟨i, hi, hq⟩ := hq
  obtain ⟨d, hd, he, hru⟩ := (c.env.tyOk hi).run_underlying
  rw [he] at hq
  obtain ⟨fs, rfl, hq2⟩ := onStruct_some hq
  clear hq
  have hq := hq2
  rw [ob_eq_some] at hq
  obtain ⟨gf, hgf, hq⟩ := hq
  rw [lget_eq, List.getElem?_map] at hgf
  cases hf : fs.toList[f]? with
  | none => rw [hf] at hgf; cases hgf
  | some fd =>
    rw [hf] at hgf
    injection hgf with hgf
    subst hgf
    rw [ob_eq_some] at hq
    obtain ⟨z, hz, hq⟩ := hq
    rw [bi_eq] at hq
    split at hq
    · cases hq
    · rename_i hz0
      injection hq with hq
      subst hq
      refine oq_elim (Φ := fun r => QRes D ε n w r _) trivial fun v hv => ?_
      obtain ⟨h1, h2⟩ := c.gt hv hx
      refine onPtr_elim (Φ := fun r => QRes D ε n w r _) trivial fun id off hp => ?_
      subst hp
      have hz1 : z ≠ 0 := fun h0 => hz0 (by rw [h0]; rfl)
      have hf' : fs[f]? = some fd := by rw [← Array.getElem?_toList]; exact hf
      have hsz := c.env.run_size hz w
      simp only [okv] at h2
      refine .mkVal ?_ (by simp only [okv]; exact h2)
      simp only [Instr.fieldAt, Sem.run_bind, hru, Result.andThen_ok, hf', h1, g, Instr.sureAddr, Sem.run_pure, fieldPlace, hsz]
      simp [hz1, add_addr, Nat.add_assoc]

theorem part_ok (hE : EnvOk P E) {t : TypeId} {cs : List AV} {off : Nat} {v : AV} (hp : partA E t cs off = some v) (hc : CellsOk D ε cs) (w : World) :
    (part t (cs.map (g ε)).toArray off).run P w = .ok (g ε v) w ∧ okv D ε v := by
  unfold partA at hp
  rw [ob_eq_some] at hp
  obtain ⟨i, hi, hp⟩ := hp
  have hty := hE.tyOk hi
  rw [bi_eq] at hp
  split at hp
  · rename_i hagg
    rw [ob_eq_some] at hp
    obtain ⟨r, hr, hp⟩ := hp
    injection hp with hp
    subst hp
    obtain ⟨h1, h2, h3⟩ := segment_some hr
    refine ⟨?_, ?_⟩
    · simp only [part, Sem.run_bind, hty.run_isAgg, hagg, Result.andThen_ok, if_true, hty.run_sizeOf, Sem.run_pure, g, h1]
      congr 2
      apply Array.ext'
      simp [List.map_drop, List.map_take]
    · simp only [okv]
      intro c hcm
      rw [h1] at hcm
      exact hc c (List.mem_of_mem_drop (List.mem_of_mem_take hcm))
  · rename_i hagg
    rw [lget_eq] at hp
    refine ⟨?_, (hc v (List.mem_of_getElem? hp)).1⟩
    simp [part, hty.run_isAgg, hagg, hp]

theorem qField_ok (c : OpAt P E D ε h n w a lc fr l) (t : TypeId) (x : Operand) (f : Nat) (hx : ∀ u, x = .tmp u → u ∈ l) {q : QF} (hq : cField E t x f = some q) :
    QRes D ε n w (q lc fr h n) ((do pure (.value (← Instr.field t (a.eval x) f)) : Sem Next).run P w) := by
  unfold cField at hq
  rw [ob_eq_some] at hq
  obtain ⟨i, hi, hq⟩ := hq
  obtain ⟨d, hd, he, hru⟩ := (c.env.tyOk hi).run_underlying
  rw [he] at hq
  obtain ⟨fs, rfl, hq2⟩ := onStruct_some hq
  clear hq
  have hq := hq2
  rw [ob_eq_some] at hq
  obtain ⟨gf, hgf, hq⟩ := hq
  rw [lget_eq, List.getElem?_map] at hgf
  cases hf : fs.toList[f]? with
  | none => rw [hf] at hgf; cases hgf
  | some fd =>
    rw [hf] at hgf
    injection hgf with hgf
    subst hgf
    have hf' : fs[f]? = some fd := by rw [← Array.getElem?_toList]; exact hf
    rw [ob_eq_some] at hq
    obtain ⟨j, hj, hq⟩ := hq
    have hpart : ∀ (cs : List AV) (v : AV), (bi (isAggD j.desc) (ob (segment cs fd.offset j.size) fun l => some (.agg l)) (lget cs fd.offset)) = some v → partA E fd.type cs fd.offset = some v := by
      intro cs v hv; unfold partA; rw [hj]; exact hv
    have hmain : ∀ (cs : List AV) (v : AV), AV.agg cs = AV.agg cs → a.eval x = g ε (.agg cs) → okv D ε (.agg cs) → partA E fd.type cs fd.offset = some v →
        QRes D ε n w (.val v) ((do pure (.value (← Instr.field t (a.eval x) f)) : Sem Next).run P w) := by
      intro cs v _ h1 h2 hp
      simp only [okv] at h2
      obtain ⟨h3, h4⟩ := part_ok c.env hp h2 w
      refine .mkVal ?_ h4
      simp [Instr.field, hru, hf', h1, g, asAgg, h3]
    rw [bi_eq] at hq
    split at hq
    · rename_i hagg
      injection hq with hq
      subst hq
      refine oq_elim (Φ := fun r => QRes D ε n w r _) trivial fun v hv => ?_
      obtain ⟨h1, h2⟩ := c.gt hv hx
      refine onAgg_elim (Φ := fun r => QRes D ε n w r _) trivial fun cs hcs => ?_
      subst hcs
      refine oq_elim (Φ := fun r => QRes D ε n w r _) trivial fun r hr => ?_
      exact hmain cs _ rfl h1 h2 (hpart _ _ (by rw [hagg]; simp [hr]))
    · rename_i hagg
      injection hq with hq
      subst hq
      refine oq_elim (Φ := fun r => QRes D ε n w r _) trivial fun v hv => ?_
      obtain ⟨h1, h2⟩ := c.gt hv hx
      refine onAgg_elim (Φ := fun r => QRes D ε n w r _) trivial fun cs hcs => ?_
      subst hcs
      refine oq_elim (Φ := fun r => QRes D ε n w r _) trivial fun r hr => ?_
      exact hmain cs _ rfl h1 h2 (hpart _ _ (by simp only [Bool.not_eq_true] at hagg; rw [hagg]; exact hr))

theorem idx_elim {Φ : QR → Prop} {i : AOpd} {lc : Lc} {fr : Tr AV} {k : Nat → QR} (h0 : Φ .fail) (h1 : ∀ j m, gt i lc fr = some (.int j (Int.ofNat m)) → Φ (k m)) : Φ (idx i lc fr k) := by
  unfold idx
  refine oq_elim h0 fun v hv => onInt_elim h0 fun j z hz => onNat_elim h0 fun m hm => ?_
  subst hz; subst hm
  exact h1 j m hv

theorem qIndexAddr_ok (c : OpAt P E D ε h n w a lc fr l) (t : TypeId) (x y : Operand) (hx : ∀ u, x = .tmp u → u ∈ l) (hy : ∀ u, y = .tmp u → u ∈ l) {q : QF} (hq : cIndexAddr E t x y = some q) :
    QRes D ε n w (q lc fr h n) ((do pure (.value (← Instr.indexAt t (a.eval x) (a.eval y))) : Sem Next).run P w) := by
  unfold cIndexAddr at hq
  rw [ob_eq_some] at hq
  obtain ⟨i, hi, hq⟩ := hq
  obtain ⟨d, hd, he, hru⟩ := (c.env.tyOk hi).run_underlying
  rw [he] at hq
  have key : (∃ e s, d = .slice e ∧ E.size e = some s ∧ q = qIndexAddrS s (cOpd x) (cOpd y)) ∨ (∃ m e s, d = .array m e ∧ E.size e = some s ∧ q = qIndexAddrA m s (cOpd x) (cOpd y)) := by
    cases d <;> first
      | (cases hq; done)
      | (have hq' : ob (E.size _) (fun s => some (qIndexAddrS s (cOpd x) (cOpd y))) = some q := hq; rw [ob_eq_some] at hq'; obtain ⟨s, hs, hq'⟩ := hq'; injection hq' with hq'; exact .inl ⟨_, s, rfl, hs, hq'.symm⟩)
      | (have hq' : ob (E.size _) (fun s => some (qIndexAddrA _ s (cOpd x) (cOpd y))) = some q := hq; rw [ob_eq_some] at hq'; obtain ⟨s, hs, hq'⟩ := hq'; injection hq' with hq'; exact .inr ⟨_, _, s, rfl, hs, hq'.symm⟩)
  rcases key with ⟨e, s, rfl, hs, rfl⟩ | ⟨m, e, s, rfl, hs, rfl⟩
  · refine oq_elim (Φ := fun r => QRes D ε n w r _) trivial fun v hv => ?_
    obtain ⟨h1, h2⟩ := c.gt hv hx
    refine onSlc_elim (Φ := fun r => QRes D ε n w r _) trivial (fun _ => trivial) fun id off len cap hp => ?_
    subst hp
    refine idx_elim (Φ := fun r => QRes D ε n w r _) trivial fun j m hm => ?_
    obtain ⟨h3, _⟩ := c.gt hm hy
    refine bi_elim (Φ := fun r => QRes D ε n w r _) (fun hlt => ?_) fun _ => trivial
    have hlt' : m < len := by simpa [Nat.blt_eq] using hlt
    simp only [okv] at h2
    refine .mkVal ?_ (by simp only [okv]; exact h2.1)
    have hsz := c.env.run_size hs w
    have e1 : (0 : Int) ≤ Int.ofNat m ∧ Int.ofNat m < (len : Int) := ⟨Int.natCast_nonneg m, Int.ofNat_lt.2 hlt'⟩
    simp only [Instr.indexAt, h1, h3, g, asIntOf, Sem.run_bind, Sem.run_pure, Result.andThen_ok, hru, if_pos e1, hsz]
    simp [add_addr, Nat.add_assoc]
  · refine oq_elim (Φ := fun r => QRes D ε n w r _) trivial fun v hv => ?_
    obtain ⟨h1, h2⟩ := c.gt hv hx
    refine onPtr_elim (Φ := fun r => QRes D ε n w r _) trivial fun id off hp => ?_
    subst hp
    refine idx_elim (Φ := fun r => QRes D ε n w r _) trivial fun j k hk => ?_
    obtain ⟨h3, _⟩ := c.gt hk hy
    refine bi_elim (Φ := fun r => QRes D ε n w r _) (fun hlt => ?_) fun _ => trivial
    have hlt' : k < m := by simpa [Nat.blt_eq] using hlt
    simp only [okv] at h2
    refine .mkVal ?_ (by simp only [okv]; exact h2)
    have hsz := c.env.run_size hs w
    have e1 : (0 : Int) ≤ Int.ofNat k ∧ Int.ofNat k < (m : Int) := ⟨Int.natCast_nonneg k, Int.ofNat_lt.2 hlt'⟩
    simp only [Instr.indexAt, h1, h3, g, asIntOf, Instr.sureAddr, Sem.run_bind, Sem.run_pure, Result.andThen_ok, hru, if_pos e1, hsz]
    simp [add_addr, Nat.add_assoc]

end ops
end Go.Proofs.YtbcnedhhebjhdaaGreatDoor.Fa

/-
  The quiet operations, against the model's: parts laid, conversions, calls of builtins.
-/
namespace Go.Proofs.YtbcnedhhebjhdaaGreatDoor.Fa

/-! ### Parts laid -/
theorem fold_set : ∀ (vs : List Value) (k off : Nat) (arr : Array Value), off + k + vs.length ≤ arr.size → ∀ i : Nat,
    ((vs.zipIdx k).foldl (fun (cs : Array Value) p => cs.setIfInBounds (off + p.2) p.1) arr)[i]? = if off + k ≤ i ∧ i < off + k + vs.length then vs[i - (off + k)]? else arr[i]? := by
  intro vs
  induction vs with
  | nil => intro k off arr _ i; rw [if_neg (by simp)]; simp
  | cons v vs ih =>
    intro k off arr hl i
    simp only [List.length_cons] at hl
    simp only [List.zipIdx_cons, List.foldl_cons]
    rw [ih (k + 1) off _ (by simp; omega) i]
    by_cases h1 : off + (k + 1) ≤ i ∧ i < off + (k + 1) + vs.length
    · rw [if_pos h1, if_pos ⟨by omega, by simp; omega⟩]
      rw [show i - (off + k) = (i - (off + (k + 1))) + 1 from by omega, List.getElem?_cons_succ]
    · rw [if_neg h1]
      by_cases h2 : off + k = i
      · subst h2
        rw [if_pos ⟨by omega, by simp⟩]
        simp only [Nat.sub_self, List.getElem?_cons_zero]
        rw [Array.getElem?_setIfInBounds_self_of_lt (by omega)]
      · rw [if_neg (by simp; omega), Array.getElem?_setIfInBounds_ne h2]

theorem fold_splice {vs l r : List Value} {off : Nat} (h : lsplice off vs l = some r) :
    vs.toArray.zipIdx.foldl (fun (cs : Array Value) p => cs.setIfInBounds (off + p.2) p.1) l.toArray = r.toArray := by
  obtain ⟨h1, h2, h3, _⟩ := lsplice_some h
  refine Array.ext_getElem? fun i => ?_
  have := fold_set vs 0 off l.toArray (by simpa using h1) i
  simp only [Nat.add_zero] at this
  have e1 : r.toArray[i]? = r[i]? := by simp
  have e2 : l.toArray[i]? = l[i]? := by simp
  rw [e1, h3 i, ← e2, ← this, ← Array.foldl_toList, Array.toList_zipIdx]

/-- Two lists, each with each. -/
inductive All2 {α β : Type} (R : α → β → Prop) : List α → List β → Prop
  | nil : All2 R [] []
  | cons {a b l k} : R a b → All2 R l k → All2 R (a :: l) (b :: k)
theorem All2.of_optAll {α β : Type} {f : α → Option β} : ∀ {l : List α} {r : List β}, optAll f l = some r → All2 (fun a b => f a = some b) l r := by
  intro l
  induction l with
  | nil => intro r h; injection h with h; subst h; exact .nil
  | cons a l ih =>
    intro r h
    have h' : ob (f a) (fun b => ob (optAll f l) fun bs => some (b :: bs)) = some r := h
    rw [ob_eq_some] at h'
    obtain ⟨b, hb, h'⟩ := h'
    rw [ob_eq_some] at h'
    obtain ⟨bs, hbs, h'⟩ := h'
    injection h' with h'
    subst h'
    exact .cons hb (ih hbs)
theorem All2.mono {α β : Type} {R S : α → β → Prop} (hm : ∀ a b, R a b → S a b) : ∀ {l : List α} {r : List β}, All2 R l r → All2 S l r := by
  intro l r h
  induction h with
  | nil => exact .nil
  | cons h _ ih => exact .cons (hm _ _ h) ih
theorem All2.map {α β : Type} {R : α → β → Prop} {f : α → β} : ∀ (l : List α), (∀ a ∈ l, R a (f a)) → All2 R l (l.map f) := by
  intro l
  induction l with
  | nil => intro _; exact .nil
  | cons a l ih => intro h; exact .cons (h a List.mem_cons_self) (ih fun b hb => h b (List.mem_cons_of_mem _ hb))

theorem run_mapM_list {α β : Type} {P : Program} {f : α → Sem β} {F : α → β} : ∀ (l : List α) (w : World), (∀ x ∈ l, ∀ w, (f x).run P w = .ok (F x) w) → (l.mapM f).run P w = .ok (l.map F) w := by
  intro l
  induction l with
  | nil => intro w _; simp
  | cons a l ih =>
    intro w h
    simp [h a List.mem_cons_self, ih w fun x hx => h x (List.mem_cons_of_mem _ hx)]
theorem run_mapM_array {α β : Type} {P : Program} {f : α → Sem β} {F : α → β} (xs : Array α) (w : World) (h : ∀ x ∈ xs.toList, ∀ w, (f x).run P w = .ok (F x) w) : (xs.mapM f).run P w = .ok (xs.map F) w := by
  rw [Array.mapM_eq_mapM_toList]
  simp [run_mapM_list xs.toList w h]
  apply Array.ext'
  simp

theorem lsplice_map {f : AV → Value} {off : Nat} {vs l r : List AV} (h : lsplice off vs l = some r) : lsplice off (vs.map f) (l.map f) = some (r.map f) := by
  obtain ⟨h1, h2, h3, h4⟩ := lsplice_some h
  rw [lsplice_eq, if_pos (by simpa using h1), h4]
  simp [List.map_take, List.map_drop]

theorem CellsOk.splice {D : Nat → Prop} {ε : Env} {off : Nat} {vs l r : List AV} (h : lsplice off vs l = some r) (hv : CellsOk D ε vs) (hl : CellsOk D ε l) : CellsOk D ε r := by
  obtain ⟨_, _, _, h4⟩ := lsplice_some h
  intro c hc
  rw [h4] at hc
  simp only [List.mem_append] at hc
  rcases hc with (hc | hc) | hc
  · exact hl c (List.mem_of_mem_take hc)
  · exact hv c hc
  · exact hl c (List.mem_of_mem_drop hc)

section ops
variable {P : Program} {E : Env0} {D : Nat → Prop} {ε : Env} {h : Heap} {n : Nat} {w : World} {a : Act} {lc : Lc} {fr : Tr AV} {l : List Nat}

theorem fillA_ok (c : OpAt P E D ε h n w a lc fr l) (place : Nat → Option (Nat × Nat)) : ∀ (ps : List (Nat × Operand)) (qs : List (Nat × Nat × AOpd)) (cells cs : List AV),
    All2 (fun p q => place p.1 = some (q.1, q.2.1) ∧ q.2.2 = cOpd p.2) ps qs → (∀ p ∈ ps, ∀ u, p.2 = .tmp u → u ∈ l) → CellsOk D ε cells → fillA qs lc fr cells = some cs →
    Instr.fill place (cells.map (g ε)).toArray (ps.map fun p => (p.1, a.eval p.2)) = some (cs.map (g ε)).toArray ∧ CellsOk D ε cs := by
  intro ps
  induction ps with
  | nil =>
    intro qs cells cs hf _ hc hq
    cases hf
    have hq' : some cells = some cs := hq
    injection hq' with hq'
    subst hq'
    exact ⟨rfl, hc⟩
  | cons p ps ih =>
    intro qs cells cs hf hx hc hq
    cases hf with
    | @cons _ q _ qs hpq hf =>
    obtain ⟨hp1, hp2⟩ := hpq
    have hq' : ob (gt q.2.2 lc fr) (fun v => bi (andb (notb (isTup v)) (Nat.beq (llen v.cells) q.2.1)) (ob (lsplice q.1 v.cells cells) (fillA qs lc fr)) none) = some cs := hq
    rw [ob_eq_some] at hq'
    obtain ⟨v, hv, hq'⟩ := hq'
    rw [bi_eq] at hq'
    split at hq'
    · rename_i hcnd
      rw [ob_eq_some] at hq'
      obtain ⟨r, hr, hq'⟩ := hq'
      rw [hp2] at hv
      obtain ⟨h1, h2⟩ := c.gt hv (hx p (List.mem_cons_self))
      simp only [andb_eq, notb_eq, Bool.and_eq_true, Bool.not_eq_true', llen_eq] at hcnd
      obtain ⟨h3, h4⟩ := isTup_false (ε := ε) (D := D) hcnd.1
      have hlen : v.cells.length = q.2.1 := Nat.eq_of_beq_eq_true hcnd.2
      obtain ⟨s1, s2, _⟩ := lsplice_some hr
      obtain ⟨i1, i2⟩ := ih qs r cs hf (fun p hp => hx p (List.mem_cons_of_mem _ hp)) (CellsOk.splice hr (h4 h2) hc) hq'
      refine ⟨?_, i2⟩
      simp only [List.map_cons, Instr.fill, hp1, h1, h3]
      rw [if_neg (by simp only [List.size_toArray, List.length_map, hlen]; simp; omega)]
      rw [fold_splice (lsplice_map hr)]
      exact i1
    · cases hq'

theorem qBuild_ok (c : OpAt P E D ε h n w a lc fr l) (t : TypeId) (ps : Array (Nat × Operand)) (hx : ∀ p ∈ ps.toList, ∀ u, p.2 = .tmp u → u ∈ l) {q : QF} (hq : cBuild E t ps.toList = some q) :
    QRes D ε n w (q lc fr h n) ((do pure (.value (← Instr.build t (ps.map fun (i, x) => (i, a.eval x)))) : Sem Next).run P w) := by
  unfold cBuild at hq
  rw [ob_eq_some] at hq
  obtain ⟨i, hi, hq⟩ := hq
  rw [ob_eq_some] at hq
  obtain ⟨z, hz, hq⟩ := hq
  obtain ⟨d, hd, he, hru⟩ := (c.env.tyOk hi).run_underlying
  obtain ⟨i', v, hi', hzv, hvc, hzc, _⟩ := zeroCells_ok (ε := ε) (D := D) c.env hz
  rw [he] at hq
  have key : (∃ m e s, d = .array m e ∧ E.size e = some s ∧ q = qBuild z (ps.toList.map fun p => (Nat.mul p.1 s, s, cOpd p.2))) ∨
      (∃ fs qs, d = .struct fs ∧ partsOf E (fs.toList.map fun f => (f.type, f.offset, f.name == "_")) ps.toList = some qs ∧ q = qBuild z qs) := by
    cases d <;> first
      | (cases hq; done)
      | (have hq' : ob (E.size _) (fun s => some (qBuild z (ps.toList.map fun p => (Nat.mul p.1 s, s, cOpd p.2)))) = some q := hq; rw [ob_eq_some] at hq'; obtain ⟨s, hs, hq'⟩ := hq'; injection hq' with hq'; exact .inl ⟨_, _, s, rfl, hs, hq'.symm⟩)
      | (have hq' : ob (partsOf E _ ps.toList) (fun qs => some (qBuild z qs)) = some q := hq; rw [ob_eq_some] at hq'; obtain ⟨s, hs, hq'⟩ := hq'; injection hq' with hq'; exact .inr ⟨_, s, rfl, hs, hq'.symm⟩)
  rcases key with ⟨m, e, s, rfl, hs, rfl⟩ | ⟨fs, qs, rfl, hqs, rfl⟩
  · refine oq_elim (Φ := fun r => QRes D ε n w r _) trivial fun cs hcs => ?_
    obtain ⟨f1, f2⟩ := fillA_ok c (fun i => some (i * s, s)) ps.toList _ z cs (All2.map _ fun p _ => ⟨rfl, rfl⟩) hx hzc hcs
    refine .mkVal ?_ (by simp only [okv]; exact f2)
    have hsz := c.env.run_size hs w
    simp only [Instr.build, Sem.run_bind, hzv, Result.andThen_ok, hru, hsz, hvc, g]
    rw [show (Array.map (fun x : Nat × Operand => (x.1, a.eval x.2)) ps).toList = ps.toList.map fun p => (p.1, a.eval p.2) from by simp, f1]
    simp
  · refine oq_elim (Φ := fun r => QRes D ε n w r _) trivial fun cs hcs => ?_
    have hsz : ∀ f ∈ fs.toList, ∀ w, (do pure (f.offset, ← sizeOf f.type) : Sem (Nat × Nat)).run P w = .ok (f.offset, ((P.info? f.type).map (·.size)).getD 0) w := by
      intro f hf w
      obtain ⟨x, hx⟩ := c.env.fields t i hi fs hd f hf
      simp [sizeOf, typeInfo, hx]
    obtain ⟨f1, f2⟩ := fillA_ok c ((fs.map fun f => (f.offset, ((P.info? f.type).map (·.size)).getD 0))[·]?) ps.toList qs z cs (by
      refine (All2.of_optAll hqs).mono fun p q hpq => ?_
      rw [ob_eq_some] at hpq
      obtain ⟨f, hf, hpq⟩ := hpq
      rw [ob_eq_some] at hpq
      obtain ⟨s, hs, hpq⟩ := hpq
      injection hpq with hpq
      subst hpq
      rw [lget_eq, List.getElem?_map] at hf
      cases hfd : fs.toList[p.1]? with
      | none => rw [hfd] at hf; cases hf
      | some fd =>
        rw [hfd] at hf
        injection hf with hf
        subst hf
        refine ⟨?_, rfl⟩
        have hsz2 := c.env.run_size hs w
        obtain ⟨x, hx⟩ := c.env.fields t i hi fs hd fd (List.mem_of_getElem? hfd)
        simp [sizeOf, typeInfo, hx] at hsz2
        rw [Array.getElem?_map, ← Array.getElem?_toList, hfd]
        simp [hx, hsz2]) hx hzc hcs
    refine .mkVal ?_ (by simp only [okv]; exact f2)
    simp only [Instr.build, Sem.run_bind, hzv, Result.andThen_ok, hru, run_mapM_array fs w hsz, hvc, g]
    rw [show (Array.map (fun x : Nat × Operand => (x.1, a.eval x.2)) ps).toList = ps.toList.map fun p => (p.1, a.eval p.2) from by simp, f1]
    simp

/-! ### Rows of one value, many times -/
theorem flat_get {α : Type} (z : List α) : ∀ (n i : Nat), (List.replicate n z).flatten[i]? = if i < n * z.length then z[i % z.length]? else none := by
  intro n
  induction n with
  | zero => intro i; simp
  | succ n ih =>
    intro i
    rw [List.replicate_succ, List.flatten_cons, List.getElem?_append]
    by_cases h1 : i < z.length
    · rw [if_pos h1, if_pos (by rw [Nat.succ_mul]; omega), Nat.mod_eq_of_lt h1]
    · rw [if_neg h1, ih]
      rw [Nat.succ_mul]
      by_cases h2 : i - z.length < n * z.length
      · rw [if_pos h2, if_pos (by omega), ← Nat.mod_eq_sub_mod (by omega)]
      · rw [if_neg h2, if_neg (by omega)]

theorem range_rep (z : List Value) (n m : Nat) (hm : m = n * z.length) : (Array.range m).map (z.toArray[· % z.toArray.size]!) = (List.replicate n z).flatten.toArray := by
  subst hm
  refine Array.ext_getElem? fun i => ?_
  have e1 : (List.replicate n z).flatten.toArray[i]? = (List.replicate n z).flatten[i]? := by simp
  rw [e1, flat_get, Array.getElem?_map]
  by_cases h : i < n * z.length
  · rw [if_pos h, Array.getElem?_eq_getElem (by simpa using h)]
    have hz : 0 < z.length := by
      rcases Nat.eq_zero_or_pos z.length with h0 | h0
      · rw [h0] at h; simp at h
      · exact h0
    have := Nat.mod_lt i hz
    simp [this]
  · rw [if_neg h, Array.getElem?_eq_none (by simpa using h)]
    rfl

theorem CellsOk.rep {D : Nat → Prop} {ε : Env} {z : List AV} (hz : CellsOk D ε z) (n : Nat) : CellsOk D ε (lrep z n) := by
  intro c hc
  rw [lrep_eq, List.mem_flatten] at hc
  obtain ⟨l, hl, hc⟩ := hc
  obtain ⟨_, rfl⟩ := List.mem_replicate.1 hl
  exact hz c hc
theorem lrep_map (f : AV → Value) (z : List AV) (n : Nat) : (lrep z n).map f = (List.replicate n (z.map f)).flatten := by
  rw [lrep_eq]; simp [List.map_flatten]

theorem qBuildSlice_ok (c : OpAt P E D ε h n w a lc fr l) (t : TypeId) (len : Nat) (ps : Array (Nat × Operand)) (hx : ∀ p ∈ ps.toList, ∀ u, p.2 = .tmp u → u ∈ l) {q : QF} (hq : cBuildSlice E t len ps.toList = some q) :
    QRes D ε n w (q lc fr h n) ((do pure (.value (← Instr.buildSlice t len (ps.map fun (i, x) => (i, a.eval x)))) : Sem Next).run P w) := by
  unfold cBuildSlice at hq
  rw [ob_eq_some] at hq
  obtain ⟨i, hi, hq⟩ := hq
  obtain ⟨d, hd, he, hru⟩ := (c.env.tyOk hi).run_underlying
  rw [he] at hq
  obtain ⟨e, rfl, hq2⟩ := onSliceD_some hq
  clear hq
  have hq := hq2
  rw [ob_eq_some] at hq
  obtain ⟨z, hz, hq⟩ := hq
  obtain ⟨j, v, hj, hzv, hvc, hzc, hzl⟩ := zeroCells_ok (ε := ε) (D := D) c.env hz
  rw [bi_eq] at hq
  split at hq
  · rename_i hle
    injection hq with hq
    subst hq
    have hle' : len * z.length ≤ 16777216 := by
      rw [llen_eq] at hle
      exact Nat.le_of_ble_eq_true hle
    refine oq_elim (Φ := fun r => QRes D ε n w r _) trivial fun cs hcs => ?_
    obtain ⟨f1, f2⟩ := fillA_ok c (fun i => some (i * z.length, z.length)) ps.toList _ (lrep z len) cs (All2.map _ fun p _ => by simp only [llen_eq]; exact ⟨rfl, trivial⟩) hx (hzc.rep len) hcs
    refine newRow_res c f2 e fun ε' he' => ⟨by simp [okv, Plus, capOk], ?_⟩
    subst he'
    have hsz := (c.env.tyOk hj).run_sizeOf w
    rw [← hzl] at hsz
    have hl : (Array.map (fun x : Nat × Operand => (x.1, a.eval x.2)) ps).toList = ps.toList.map fun p => (p.1, a.eval p.2) := by simp
    by_cases h0 : len * z.length = 0
    · have hr0 : (lrep z len).map (g ε) = [] := by
        rw [lrep_map]
        apply List.eq_nil_of_length_eq_zero
        simp [h0]
      rw [hr0] at f1
      have hra : ∀ f : Nat → Value, (Array.range 0).map f = #[] := fun f => by
        apply Array.ext'
        simp
      simp only [Instr.buildSlice, Sem.run_bind, hru, Result.andThen_ok, hsz, Sem.run_pure, h0, hl, hra, f1]
      simp [ newRow, g, Env.at, gCap]
    · have hcells : (Array.range (len * z.length)).map ((z.map (g ε)).toArray[· % (z.map (g ε)).toArray.size]!) = ((lrep z len).map (g ε)).toArray := by
        rw [lrep_map]
        exact range_rep _ _ _ (by simp)
      simp only [Instr.buildSlice, Sem.run_bind, hru, Result.andThen_ok, hsz, if_neg (show ¬ len * z.length > 2 ^ 24 from by omega), if_neg h0, Sem.run_pure, hzv, hvc, hcells, hl, f1]
      simp [newRow, g, Env.at, gCap]
  · cases hq

end ops
end Go.Proofs.YtbcnedhhebjhdaaGreatDoor.Fa

/-
  Numbers, strings: the evaluator's words against the model's.
-/
namespace Go.Proofs.YtbcnedhhebjhdaaGreatDoor.Fa

theorem intEq_eq (a b : Int) : intEq a b = decide (a = b) := by
  cases a with
  | ofNat m => cases b with
    | ofNat n => show Nat.beq m n = _; rw [Bool.eq_iff_iff]; simp; omega
    | negSucc n => show false = _; simp
  | negSucc m => cases b with
    | ofNat n => show false = _; simp
    | negSucc n => show Nat.beq m n = _; rw [Bool.eq_iff_iff]; simp
theorem intLe_eq (a b : Int) : intLe a b = decide (a ≤ b) := by
  cases a with
  | ofNat m => cases b with
    | ofNat n => show Nat.ble m n = _; rw [Bool.eq_iff_iff]; simp
    | negSucc n => show false = _; rw [eq_comm, decide_eq_false_iff_not]; simp only [Int.ofNat_eq_natCast]; omega
  | negSucc m => cases b with
    | ofNat n => show true = _; rw [eq_comm, decide_eq_true_iff]; simp only [Int.ofNat_eq_natCast]; omega
    | negSucc n => show Nat.ble n m = _; rw [Bool.eq_iff_iff]; simp only [Nat.ble_eq, decide_eq_true_eq]; omega
theorem kindEq_eq (a b : IntKind) : kindEq a b = decide (a = b) := by cases a <;> cases b <;> rfl
theorem isU8_eq (k : IntKind) : isU8 k = decide (k = .u8) := by cases k <;> rfl
theorem addI_eq (a b : Int) : addI a b = a + b := by
  cases a with
  | ofNat m => cases b with
    | ofNat n => show Int.ofNat (m + n) = _; simp
    | negSucc n => rfl
  | negSucc m => rfl
theorem wrapA_eq (k : IntKind) (n : Int) : wrapA k n = k.wrap n := by
  cases n with
  | ofNat m =>
    show bi (Nat.blt m (halfOf k)) (.ofNat m) (k.wrap (.ofNat m)) = _
    rw [bi_eq]
    split
    · rename_i hlt
      have hlt' : m < halfOf k := by simpa [Nat.blt_eq] using hlt
      cases k <;> simp only [halfOf] at hlt' <;> simp [IntKind.wrap, IntKind.bits, IntKind.signed] <;> omega
    · rfl
  | negSucc m =>
    show bi (andb (signedOf k) (Nat.blt m (halfOf k))) (.negSucc m) (k.wrap (.negSucc m)) = _
    rw [bi_eq]
    split
    · rename_i hlt
      simp only [andb_eq, Bool.and_eq_true] at hlt
      have hlt' : m < halfOf k := by simpa [Nat.blt_eq] using hlt.2
      have hs := hlt.1
      have hz : Int.negSucc m = -((m : Int) + 1) := Int.negSucc_eq m
      rw [hz]
      generalize (m : Int) + 1 = z at *
      have hz1 : 0 < z ∧ z ≤ (halfOf k : Int) := by omega
      clear hz hlt hlt'
      cases k <;> simp only [halfOf] at hz1 <;> first | (cases hs; done) | (simp [IntKind.wrap, IntKind.bits, IntKind.signed]; omega)
    · rfl
theorem bytesEq_eq : ∀ a b : List UInt8, bytesEq a b = decide (a = b) := by
  intro a
  induction a with
  | nil => intro b; cases b with
    | nil => rfl
    | cons y b => rfl
  | cons x a ih =>
    intro b
    cases b with
    | nil => rfl
    | cons y b =>
      show bi (Nat.beq x.toNat y.toNat) (bytesEq a b) false = _
      rw [ih, bi_eq]
      by_cases h : x = y
      · subst h; simp
      · have : ¬ x.toNat = y.toNat := fun h' => h (UInt8.toNat_inj.1 h')
        simp [this, h]
theorem beq_dec (a b : List UInt8) : (a == b) = decide (a = b) := by rw [Bool.eq_iff_iff]; simp
theorem bytesLt_eq : ∀ a b : List UInt8, bytesLt a b = Op.bytesLess a b := by
  intro a
  induction a with
  | nil => intro b; cases b with
    | nil => rfl
    | cons y b => rfl
  | cons x a ih =>
    intro b
    cases b with
    | nil => rfl
    | cons y b =>
      show bi (Nat.blt x.toNat y.toNat) true (bi (Nat.beq x.toNat y.toNat) (bytesLt a b) false) = _
      rw [ih, bi_eq, bi_eq, Op.bytesLess]
      by_cases h : x = y
      · subst h; simp [Nat.blt_eq]
      · have h1 : ¬ x.toNat = y.toNat := fun h' => h (UInt8.toNat_inj.1 h')
        by_cases h2 : x < y
        · have h3 : x.toNat < y.toNat := h2
          simp [h2, h3]
        · have h3 : ¬ x.toNat < y.toNat := h2
          simp [h, h1, h2, h3]
theorem toList_mk (s : List UInt8) : (⟨s.toArray⟩ : ByteArray).toList = s := by rw [Lib.toList_data]

section
variable {P : Program} {ε : Env} {D : Nat → Prop} {w : World}

theorem mkInt_some {k : IntKind} {n : Int} {r : AV} (h : mkInt k n = some r) : g ε r = .int k (k.wrap n) ∧ okv D ε r := by
  injection h with h
  subst h
  simp [g, okv, wrapA_eq]
theorem mkBool_some {b : Bool} {r : AV} (h : mkBool b = some r) : g ε r = .bool b ∧ okv D ε r := by
  injection h with h
  subst h
  simp [g, okv]

theorem intOp_ok (op : BinOp) (t : TypeId) (k : IntKind) (a b : Int) {r : AV} (hr : intOp op k a b = some r) : (binOp op t (.int k a) (.int k b)).run P w = .ok (g ε r) w ∧ okv D ε r := by
  have hdiv : ∀ x : Option AV, bi (intEq b 0) none x = some r → b ≠ 0 ∧ x = some r := by
    intro x hx
    rw [bi_eq] at hx
    split at hx
    · cases hx
    · rename_i hb
      rw [intEq_eq] at hb
      exact ⟨by simpa using hb, hx⟩
  cases op with
  | add => obtain ⟨h1, h2⟩ := mkInt_some (ε := ε) (D := D) hr; exact ⟨by simp [binOp, Op.intArith, h1, addI_eq], h2⟩
  | sub => obtain ⟨h1, h2⟩ := mkInt_some (ε := ε) (D := D) hr; exact ⟨by rw [h1, show a.sub b = a - b from rfl]; simp [binOp, Op.intArith], h2⟩
  | mul => obtain ⟨h1, h2⟩ := mkInt_some (ε := ε) (D := D) hr; exact ⟨by simp [binOp, Op.intArith, h1, Int.mul_def], h2⟩
  | quo =>
    obtain ⟨h0, hr⟩ := hdiv _ hr
    obtain ⟨h1, h2⟩ := mkInt_some (ε := ε) (D := D) hr
    exact ⟨by simp [binOp, Op.intDiv, h1, h0], h2⟩
  | rem =>
    obtain ⟨h0, hr⟩ := hdiv _ hr
    injection hr with hr
    subst hr
    exact ⟨by simp [binOp, Op.intDiv, g, h0], by simp [okv]⟩
  | and => obtain ⟨h1, h2⟩ := mkInt_some (ε := ε) (D := D) hr; exact ⟨by simp [binOp, Op.intBits, h1], h2⟩
  | or => obtain ⟨h1, h2⟩ := mkInt_some (ε := ε) (D := D) hr; exact ⟨by simp [binOp, Op.intBits, h1], h2⟩
  | xor => obtain ⟨h1, h2⟩ := mkInt_some (ε := ε) (D := D) hr; exact ⟨by simp [binOp, Op.intBits, h1], h2⟩
  | shl => cases hr
  | shr => cases hr
  | andNot => obtain ⟨h1, h2⟩ := mkInt_some (ε := ε) (D := D) hr; exact ⟨by simp [binOp, Op.intBits, h1], h2⟩
  | eql => obtain ⟨h1, h2⟩ := mkBool_some (ε := ε) (D := D) hr; exact ⟨by simp [binOp, Op.intCmp, h1, intEq_eq]; rfl, h2⟩
  | neq => obtain ⟨h1, h2⟩ := mkBool_some (ε := ε) (D := D) hr; exact ⟨by simp [binOp, Op.intCmp, h1, intEq_eq]; rfl, h2⟩
  | lss => obtain ⟨h1, h2⟩ := mkBool_some (ε := ε) (D := D) hr; exact ⟨by simp [binOp, Op.intCmp, h1, intLe_eq, ← Int.not_le], h2⟩
  | leq => obtain ⟨h1, h2⟩ := mkBool_some (ε := ε) (D := D) hr; exact ⟨by simp [binOp, Op.intCmp, h1, intLe_eq], h2⟩
  | gtr => obtain ⟨h1, h2⟩ := mkBool_some (ε := ε) (D := D) hr; exact ⟨by simp [binOp, Op.intCmp, h1, intLe_eq, ← Int.not_le], h2⟩
  | geq => obtain ⟨h1, h2⟩ := mkBool_some (ε := ε) (D := D) hr; exact ⟨by simp [binOp, Op.intCmp, h1, intLe_eq], h2⟩

theorem shiftOp_ok (op : BinOp) (t : TypeId) (k j : IntKind) (a : Int) (m : Nat) {r : AV} (hr : shiftOp op k a m = some r) : (binOp op t (.int k a) (.int j (Int.ofNat m))).run P w = .ok (g ε r) w ∧ okv D ε r := by
  have h0 : ¬ ((m : Int) < 0) := by omega
  have hp : ∀ n : Nat, Int.ofNat (Nat.pow 2 n) = (2 : Int) ^ n := fun n => by simp
  cases op <;> first
    | (cases hr; done)
    | (obtain ⟨h1, h2⟩ := mkInt_some (ε := ε) (D := D) hr; exact ⟨by rw [h1, hp]; simp [binOp, Op.shift, h0, Int.mul_def], h2⟩)
    | (injection hr with hr; subst hr; exact ⟨by simp only [g]; rw [hp]; simp [binOp, Op.shift, h0], by simp [okv]⟩)

theorem strOp_ok (op : BinOp) (t : TypeId) (a b : List UInt8) {r : AV} (hr : strOp op a b = some r) : (binOp op t (.string ⟨a.toArray⟩) (.string ⟨b.toArray⟩)).run P w = .ok (g ε r) w ∧ okv D ε r := by
  cases op with
  | eql => obtain ⟨h1, h2⟩ := mkBool_some (ε := ε) (D := D) hr; exact ⟨by rw [h1]; simp only [binOp, Op.stringOp, bytesEq_eq, toList_mk, beq_dec]; rfl, h2⟩
  | neq => obtain ⟨h1, h2⟩ := mkBool_some (ε := ε) (D := D) hr; exact ⟨by rw [h1]; simp only [binOp, Op.stringOp, notb_eq, bytesEq_eq, toList_mk, beq_dec]; rfl, h2⟩
  | lss => obtain ⟨h1, h2⟩ := mkBool_some (ε := ε) (D := D) hr; exact ⟨by rw [h1]; simp only [binOp, Op.stringOp, bytesLt_eq, toList_mk]; rfl, h2⟩
  | leq => obtain ⟨h1, h2⟩ := mkBool_some (ε := ε) (D := D) hr; exact ⟨by rw [h1]; simp only [binOp, Op.stringOp, orb_eq, bytesEq_eq, bytesLt_eq, toList_mk, beq_dec]; rfl, h2⟩
  | gtr => obtain ⟨h1, h2⟩ := mkBool_some (ε := ε) (D := D) hr; exact ⟨by rw [h1]; simp only [binOp, Op.stringOp, orb_eq, notb_eq, bytesEq_eq, bytesLt_eq, toList_mk, beq_dec]; rfl, h2⟩
  | geq => obtain ⟨h1, h2⟩ := mkBool_some (ε := ε) (D := D) hr; exact ⟨by rw [h1]; simp only [binOp, Op.stringOp, notb_eq, bytesLt_eq, toList_mk]; rfl, h2⟩
  | add =>
    have hr' : bi (Nat.blt (Nat.add (llen a) (llen b)) 1000000000) (some (.str (lapp a b))) none = some r := hr
    rw [bi_eq] at hr'
    split at hr'
    · rename_i hlt
      injection hr' with hr'
      subst hr'
      have hlt' : a.length + b.length < 1000000000 := by simpa [Nat.blt_eq] using hlt
      refine ⟨?_, by simp [okv]⟩
      have hmax : IntKind.i64.max = 9223372036854775807 := by decide
      have hsz : ¬ (((⟨a.toArray⟩ : ByteArray).size + (⟨b.toArray⟩ : ByteArray).size : Nat) : Int) > IntKind.i64.max := by
        rw [hmax]
        simp [ByteArray.size]
        omega
      simp only [binOp, Op.stringOp, if_neg hsz, g, Sem.run_pure, lapp_eq]
      congr 2
    · cases hr'
  | _ => cases hr
end
end Go.Proofs.YtbcnedhhebjhdaaGreatDoor.Fa

/-
  '==' of the evaluator, against the model's.
-/
namespace Go.Proofs.YtbcnedhhebjhdaaGreatDoor.Fa

section ops
variable {P : Program} {E : Env0} {D : Nat → Prop} {ε : Env} {h : Heap} {w : World}

theorem bytes_eq (a b : List UInt8) : ((⟨a.toArray⟩ : ByteArray) == ⟨b.toArray⟩) = decide (a = b) := by
  show (a.toArray == b.toArray) = _
  rw [Bool.eq_iff_iff]
  simp
theorem nbeq (i j : Nat) : Nat.beq i j = decide (i = j) := by rw [Bool.eq_iff_iff]; simp

theorem ofDesc_bool {d : TypeDesc} (h : ofDesc d = .bool) : d = .bool := by cases d <;> first | rfl | cases h
theorem ofDesc_int {d : TypeDesc} {k : IntKind} (h : ofDesc d = .int k) : d = .int k := by cases d <;> first | (injection h with h; subst h; rfl) | cases h
theorem ofDesc_string {d : TypeDesc} (h : ofDesc d = .string) : d = .string := by cases d <;> first | rfl | cases h
theorem ofDesc_pointer {d : TypeDesc} {e : TypeId} (h : ofDesc d = .pointer e) : d = .pointer e := by cases d <;> first | (injection h with h; subst h; rfl) | cases h
theorem ofDesc_slice {d : TypeDesc} {e : TypeId} (h : ofDesc d = .slice e) : d = .slice e := by cases d <;> first | (injection h with h; subst h; rfl) | cases h
theorem ofDesc_map {d : TypeDesc} {e f : TypeId} (h : ofDesc d = .map e f) : d = .map e f := by cases d <;> first | (injection h with h h'; subst h; subst h'; rfl) | cases h
theorem ofDesc_struct {d : TypeDesc} {l : List (TypeId × Nat × Bool)} (h : ofDesc d = .struct l) : ∃ fs, d = .struct fs ∧ l = fs.toList.map fun f => (f.type, f.offset, f.name == "_") := by cases d <;> first | (injection h with h; exact ⟨_, rfl, h.symm⟩) | cases h
theorem ofDesc_func {d : TypeDesc} (h : ofDesc d = .func) : ∃ a b c, d = .func a b c := by cases d <;> first | exact ⟨_, _, _, rfl⟩ | cases h
theorem ofDesc_interface {d : TypeDesc} (h : ofDesc d = .interface) : ∃ ms, d = .interface ms := by cases d <;> first | exact ⟨_, rfl⟩ | cases h

theorem eqPtr_some {x y : AV} {b : Bool} (hb : eqPtr h x y = some b) : (x = .nilPtr ∧ y = .nilPtr ∧ b = true) ∨ (x = .nilPtr ∧ (∃ i o, y = .ptr i o) ∧ b = false) ∨ ((∃ i o, x = .ptr i o) ∧ y = .nilPtr ∧ b = false) ∨
    (∃ i o j q, x = .ptr i o ∧ y = .ptr j q ∧ plainRow h i = true ∧ plainRow h j = true ∧ b = (decide (i = j) && decide (o = q))) := by
  cases x with
  | nilPtr =>
    cases y with
    | nilPtr => injection hb with hb; exact .inl ⟨rfl, rfl, hb.symm⟩
    | ptr i o => injection hb with hb; exact .inr (.inl ⟨rfl, ⟨i, o, rfl⟩, hb.symm⟩)
    | _ => cases hb
  | ptr i o =>
    cases y with
    | nilPtr => injection hb with hb; exact .inr (.inr (.inl ⟨⟨i, o, rfl⟩, rfl, hb.symm⟩))
    | ptr j q =>
      have hb' : bi (andb (plainRow h i) (plainRow h j)) (some (andb (Nat.beq i j) (Nat.beq o q))) none = some b := hb
      rw [bi_eq] at hb'
      split at hb'
      · rename_i hp
        injection hb' with hb'
        simp only [andb_eq, Bool.and_eq_true] at hp
        refine .inr (.inr (.inr ⟨i, o, j, q, rfl, rfl, hp.1, hp.2, ?_⟩))
        rw [← hb', andb_eq, nbeq, nbeq]
      · cases hb'
    | _ => cases hb
  | _ => cases hb

theorem plainRow_ok (hs : Sim D ε h.find w) {i : Nat} (hp : plainRow h i = true) : ∃ b arr T, h.find i = some b ∧ w.heap[ε.blk i]? = some (.cells arr T (0, 0)) := by
  unfold plainRow at hp
  cases hb : h.find i with
  | none => rw [hb] at hp; cases hp
  | some b =>
    rw [hb] at hp
    have hp' : onCells false (fun _ _ _ s => notb s) b = true := hp
    cases b with
    | cells cs r o s =>
      have hp2 : notb s = true := hp'
      have hs2 : s = false := by cases s <;> first | rfl | cases hp2
      obtain ⟨x, hx, arr, T, fz, rfl, _, _, _, hf, _⟩ := hs.obj i _ hb
      rw [hf hs2] at hx
      exact ⟨_, arr, T, rfl, hx⟩
    | _ => cases hp'

theorem sameAddr_ok (hs : Sim D ε h.find w) {i o j q : Nat} (hi : plainRow h i = true) (hj : plainRow h j = true) :
    (sameAddr ⟨ε.blk i, ε.sft i + o, none⟩ ⟨ε.blk j, ε.sft j + q, none⟩).run P w = .ok (decide (i = j) && decide (o = q)) w := by
  obtain ⟨b, arr, T, hb, hx⟩ := plainRow_ok hs hi
  obtain ⟨b', arr', T', hb', hx'⟩ := plainRow_ok hs hj
  by_cases he : ε.blk i = ε.blk j
  · have hij := hs.inj i j b b' hb hb' he
    subst hij
    simp only [sameAddr, beq_self_eq_true, if_true, Sem.run_pure, decide_true, Bool.true_and]
    congr 1
    rw [Bool.eq_iff_iff]
    simp
  · have hij : i ≠ j := fun h' => he (by rw [h'])
    have f1 : w.frozen? ⟨ε.blk i, ε.sft i + o, none⟩ = false := by simp [World.frozen?, hx]
    have f2 : w.frozen? ⟨ε.blk j, ε.sft j + q, none⟩ = false := by simp [World.frozen?, hx']
    have s1 : w.shape? (ε.blk i) = some (T, arr.size) := by simp [World.shape?, hx]
    have s2 : w.shape? (ε.blk j) = some (T', arr'.size) := by simp [World.shape?, hx']
    have g1 : w.frozen? ⟨ε.blk i, arr.size, none⟩ = false := by simp [World.frozen?, hx]
    have g2 : w.frozen? ⟨ε.blk j, arr'.size, none⟩ = false := by simp [World.frozen?, hx']
    simp [sameAddr, he, hij, f1, f2, noView, viewAt, s1, s2, mayBeOne, stringish, g1, g2]

theorem eqFields_ok {N : Nat} {xs ys : List AV} (hE : EnvOk P E) (eq : TypeId → AV → AV → Option Bool)
    (ih : ∀ t x y b, okv D ε x → okv D ε y → eq t x y = some b → (Op.equalIn N t (g ε x) (g ε y)).run P w = .ok b w) (hx : CellsOk D ε xs) (hy : CellsOk D ε ys) :
    ∀ (fs : List Field) (b : Bool), eqFields E eq xs ys (fs.map fun f => (f.type, f.offset, f.name == "_")) = some b →
    (do
      for f in fs do
        if f.name ≠ "_" then
          if !(← Op.equalIn N f.type (← part f.type (xs.map (g ε)).toArray f.offset) (← part f.type (ys.map (g ε)).toArray f.offset)) then return false
      pure true : Sem Bool).run P w = .ok b w := by
  intro fs
  induction fs with
  | nil =>
    intro b hb
    have hb' : some true = some b := hb
    injection hb' with hb'
    subst hb'
    simp
  | cons f fs ihf =>
    intro b hb
    have hb' : bi (f.name == "_") (eqFields E eq xs ys (fs.map fun f => (f.type, f.offset, f.name == "_"))) (ob (partA E f.type xs f.offset) fun a => ob (partA E f.type ys f.offset) fun b => ob (eq f.type a b) fun r =>
        bi r (eqFields E eq xs ys (fs.map fun f => (f.type, f.offset, f.name == "_"))) (some false)) = some b := hb
    rw [bi_eq] at hb'
    split at hb'
    · rename_i hn
      have hn' : f.name = "_" := by simpa using hn
      have := ihf b hb'
      simp only [List.forIn_cons, hn', ne_eq, not_true_eq_false, if_false, pure_bind] at this ⊢
      exact this
    · rename_i hn
      have hn' : ¬ f.name = "_" := by simpa using hn
      rw [ob_eq_some] at hb'
      obtain ⟨u, hu, hb'⟩ := hb'
      rw [ob_eq_some] at hb'
      obtain ⟨v, hv, hb'⟩ := hb'
      rw [ob_eq_some] at hb'
      obtain ⟨r, hr, hb'⟩ := hb'
      obtain ⟨p1, p2⟩ := part_ok (ε := ε) (D := D) hE hu hx w
      obtain ⟨p3, p4⟩ := part_ok (ε := ε) (D := D) hE hv hy w
      have hrun := ih _ _ _ _ p2 p4 hr
      cases r with
      | true =>
        have := ihf b hb'
        simp only [List.forIn_cons, Sem.run_bind, ne_eq, hn', not_false_eq_true, if_true, p1, p3, hrun, Result.andThen_ok, Bool.not_true, Bool.false_eq_true, if_false, Sem.run_pure] at this ⊢
        exact this
      | false =>
        have hb2 : some false = some b := hb'
        injection hb2 with hb2
        subst hb2
        simp [hn', p1, p3, hrun]

section kinds
variable {t : TypeId} {N : Nat} {x y : AV} {b : Bool}
theorem eqBool_ok (hru : ∀ w, (underlying t).run P w = .ok .bool w) (hb : eqBool x y = some b) : (Op.equalIn (N + 1) t (g ε x) (g ε y)).run P w = .ok b w := by
  cases x <;> first | (cases hb; done) | skip
  cases y <;> first | (cases hb; done) | skip
  injection hb with hb
  simp [Op.equalIn, hru, g, ← hb]
theorem eqInt_ok {k : IntKind} (hru : ∀ w, (underlying t).run P w = .ok (.int k) w) (hb : eqInt x y = some b) : (Op.equalIn (N + 1) t (g ε x) (g ε y)).run P w = .ok b w := by
  cases x <;> first | (cases hb; done) | skip
  cases y <;> first | (cases hb; done) | skip
  rename_i k1 a1 k2 a2
  have hb3 : bi (kindEq k1 k2) (some (intEq a1 a2)) none = some b := hb
  rw [bi_eq] at hb3
  split at hb3
  · rename_i hk
    rw [kindEq_eq] at hk
    injection hb3 with hb3
    have hk' : k1 = k2 := by simpa using hk
    subst hk'
    rw [intEq_eq] at hb3
    simp [Op.equalIn, hru, g, ← hb3]
    rfl
  · cases hb3
theorem eqStr_ok (hru : ∀ w, (underlying t).run P w = .ok .string w) (hb : eqStr x y = some b) : (Op.equalIn (N + 1) t (g ε x) (g ε y)).run P w = .ok b w := by
  cases x <;> first | (cases hb; done) | skip
  cases y <;> first | (cases hb; done) | skip
  injection hb with hb
  rw [bytesEq_eq] at hb
  simp only [Op.equalIn, Sem.run_bind, hru, Result.andThen_ok, g, Sem.run_pure, bytes_eq, hb]
theorem eqPtr_ok (hE : EnvOk P E) (hs : Sim D ε h.find w) {e : TypeId} (hru : ∀ w, (underlying t).run P w = .ok (.pointer e) w) (hb : ob (E.size e) (fun s => bi (Nat.beq s 0) none (eqPtr h x y)) = some b) :
    (Op.equalIn (N + 1) t (g ε x) (g ε y)).run P w = .ok b w := by
  rw [ob_eq_some] at hb
  obtain ⟨s, hsz, hb⟩ := hb
  rw [bi_eq] at hb
  split at hb
  · cases hb
  · rename_i hs0
    have hs0' : s ≠ 0 := by simpa using hs0
    have hsize := hE.run_size hsz w
    rcases eqPtr_some hb with ⟨rfl, rfl, rfl⟩ | ⟨rfl, ⟨i1, o1, rfl⟩, rfl⟩ | ⟨⟨i1, o1, rfl⟩, rfl, rfl⟩ | ⟨i1, o1, j1, q1, rfl, rfl, hp1, hp2, rfl⟩
    · simp [Op.equalIn, hru, g]
    · simp [Op.equalIn, hru, g]
    · simp [Op.equalIn, hru, g]
    · simp only [Op.equalIn, Sem.run_bind, hru, Result.andThen_ok, g, hsize, Sem.run_ite, ne_eq, hs0', not_false_eq_true, if_true]
      exact sameAddr_ok hs hp1 hp2
theorem eqSlice_ok {e : TypeId} (hru : ∀ w, (underlying t).run P w = .ok (.slice e) w) (hb : eqSlice x y = some b) : (Op.equalIn (N + 1) t (g ε x) (g ε y)).run P w = .ok b w := by
  cases x <;> first | (cases hb; done) | skip
  all_goals cases y <;> first | (cases hb; done) | skip
  all_goals
    injection hb with hb
    subst hb
    simp [Op.equalIn, hru, g]
theorem eqMap_ok {k e : TypeId} (hru : ∀ w, (underlying t).run P w = .ok (.map k e) w) (hb : eqMap x y = some b) : (Op.equalIn (N + 1) t (g ε x) (g ε y)).run P w = .ok b w := by
  cases x <;> first | (cases hb; done) | skip
  all_goals cases y <;> first | (cases hb; done) | skip
  all_goals
    injection hb with hb
    subst hb
    simp [Op.equalIn, hru, g]
theorem eqFunc_ok {a c d} (hru : ∀ w, (underlying t).run P w = .ok (.func a c d) w) (hb : eqFunc x y = some b) : (Op.equalIn (N + 1) t (g ε x) (g ε y)).run P w = .ok b w := by
  cases x <;> first | (cases hb; done) | skip
  all_goals cases y <;> first | (cases hb; done) | skip
  all_goals
    injection hb with hb
    subst hb
    simp only [Op.equalIn, Sem.run_bind, hru, Result.andThen_ok, g, Sem.run_pure]
theorem eqNils_ok {ms} (hru : ∀ w, (underlying t).run P w = .ok (.interface ms) w) (hb : onIface none (onIface none (some true) (fun _ _ => some false) y) (fun _ _ => onIface none (some false) (fun _ _ => none) y) x = some b) : (Op.equalIn (N + 1) t (g ε x) (g ε y)).run P w = .ok b w := by
  cases x <;> first | (cases hb; done) | skip
  all_goals cases y <;> first | (cases hb; done) | skip
  all_goals
    injection hb with hb
    subst hb
    simp only [Op.equalIn, Sem.run_bind, hru, Result.andThen_ok, g, Sem.run_pure]
theorem eqIface_ok {ms} {s u : TypeId} {a c : AV} (hE : EnvOk P E) (hru : ∀ w, (underlying t).run P w = .ok (.interface ms) w) (eq : TypeId → AV → AV → Option Bool)
    (ih : eq s a c = some b → (Op.equalIn N s (g ε a) (g ε c)).run P w = .ok b w) (hb : bi (Nat.beq s u) (bi (comparable E s) (eq s a c) none) (some false) = some b) :
    (Op.equalIn (N + 1) t (.iface s (g ε a)) (.iface u (g ε c))).run P w = .ok b w := by
  rw [bi_eq] at hb
  split at hb
  · rename_i hst
    have hst' : s = u := Nat.eq_of_beq_eq_true hst
    subst hst'
    rw [bi_eq] at hb
    split at hb
    · rename_i hc
      unfold comparable at hc
      cases hj : E.type s with
      | none => rw [hj] at hc; cases hc
      | some j =>
        rw [hj] at hc
        have hc' : j.comparable = true := hc
        obtain ⟨z, hz, _, _, hcmp, _, hinfo⟩ := (hE.tyOk hj).run_typeInfo
        have := ih hb
        rw [hcmp] at hc'
        simp only [Op.equalIn, Sem.run_bind, hru, Result.andThen_ok, ne_eq, not_true_eq_false, if_false, hinfo, hc', Bool.not_true, Bool.false_eq_true]
        exact this
    · cases hb
  · rename_i hst
    have hst' : s ≠ u := fun h' => hst (by rw [h']; simp)
    injection hb with hb
    subst hb
    simp only [Op.equalIn, Sem.run_bind, hru, Result.andThen_ok, ne_eq, hst', not_false_eq_true, if_true, Sem.run_pure]
theorem eqStruct_ok {fs : Array Field} {xs ys : List AV} (hE : EnvOk P E) (hru : ∀ w, (underlying t).run P w = .ok (.struct fs) w) (hst : P.stoodInHeld t = false) (eq : TypeId → AV → AV → Option Bool)
    (ih : ∀ t x y b, okv D ε x → okv D ε y → eq t x y = some b → (Op.equalIn N t (g ε x) (g ε y)).run P w = .ok b w) (hx : CellsOk D ε xs) (hy : CellsOk D ε ys)
    (hb : eqFields E eq xs ys (fs.toList.map fun f => (f.type, f.offset, f.name == "_")) = some b) :
    (Op.equalIn (N + 1) t (g ε (.agg xs)) (g ε (.agg ys))).run P w = .ok b w := by
  have := eqFields_ok (P := P) (w := w) (N := N) hE eq ih hx hy fs.toList b hb
  simp only [Op.equalIn, Sem.run_bind, hru, Result.andThen_ok, g, run_program, hst, Bool.false_eq_true, if_false, ← Array.forIn_toList]
  simp only [Sem.run_bind] at this
  exact this
end kinds

/-- '==', as far as the evaluator says it. -/
theorem eqA_ok (hE : EnvOk P E) (hs : Sim D ε h.find w) : ∀ (d N : Nat), d ≤ N → ∀ t x y b, okv D ε x → okv D ε y → eqA E h d t x y = some b → (Op.equalIn N t (g ε x) (g ε y)).run P w = .ok b w := by
  intro d
  induction d with
  | zero => intro N _ t x y b _ _ hb; cases hb
  | succ d ih =>
    intro N hN t x y b hx hy hb
    obtain ⟨N, rfl⟩ : ∃ M, N = M + 1 := ⟨N - 1, by omega⟩
    have hb' : ob (E.type t) (fun i => eqDesc E h (eqA E h d) i x y) = some b := hb
    rw [ob_eq_some] at hb'
    obtain ⟨i, hi, hb'⟩ := hb'
    have hty := hE.tyOk hi
    obtain ⟨dd, hdd, he, hru⟩ := hty.run_underlying
    unfold eqDesc at hb'
    have hstood := hty.stood
    cases hdesc : i.desc with
    | bool =>
      rw [hdesc] at hb' he
      have := ofDesc_bool he.symm
      subst this
      exact eqBool_ok hru hb'
    | int k =>
      rw [hdesc] at hb' he
      have := ofDesc_int he.symm
      subst this
      exact eqInt_ok hru hb'
    | string =>
      rw [hdesc] at hb' he
      have := ofDesc_string he.symm
      subst this
      exact eqStr_ok hru hb'
    | pointer e =>
      rw [hdesc] at hb' he
      have := ofDesc_pointer he.symm
      subst this
      exact eqPtr_ok hE hs hru hb'
    | slice e =>
      rw [hdesc] at hb' he
      have := ofDesc_slice he.symm
      subst this
      exact eqSlice_ok hru hb'
    | array m e => rw [hdesc] at hb'; cases hb'
    | map k e =>
      rw [hdesc] at hb' he
      have := ofDesc_map he.symm
      subst this
      exact eqMap_ok hru hb'
    | struct l =>
      rw [hdesc] at hb' he
      obtain ⟨fs, rfl, rfl⟩ := ofDesc_struct he.symm
      have hb2 : bi i.stood none (onAgg none (fun xs => onAgg none (fun ys => eqFields E (eqA E h d) xs ys (fs.toList.map fun f => (f.type, f.offset, f.name == "_"))) y) x) = some b := hb'
      rw [bi_eq] at hb2
      split at hb2
      · cases hb2
      · rename_i hst
        cases x <;> first | (cases hb2; done) | skip
        cases y <;> first | (cases hb2; done) | skip
        rename_i xs ys
        simp only [okv] at hx hy
        exact eqStruct_ok hE hru (by rw [← hstood]; simpa using hst) (eqA E h d) (fun t x y b h1 h2 h3 => ih N (by omega) t x y b h1 h2 h3) hx hy hb2
    | func =>
      rw [hdesc] at hb' he
      obtain ⟨a1, b1, c1, rfl⟩ := ofDesc_func he.symm
      exact eqFunc_ok hru hb'
    | interface =>
      rw [hdesc] at hb' he
      obtain ⟨ms, rfl⟩ := ofDesc_interface he.symm
      have hb2 : eqIface (eqA E h d) (comparable E) x y = some b := hb'
      cases x <;> first | (cases hb2; done) | skip
      · cases y <;> first | (cases hb2; done) | skip
        all_goals exact eqNils_ok hru hb2
      · cases y <;> first | (cases hb2; done) | skip
        · exact eqNils_ok hru hb2
        · rename_i s u t2 v
          simp only [okv] at hx hy
          simp only [g]
          exact eqIface_ok hE hru (eqA E h d) (fun h3 => ih N (by omega) s u v b hx hy h3) hb2
    | other => rw [hdesc] at hb'; cases hb'
end ops
end Go.Proofs.YtbcnedhhebjhdaaGreatDoor.Fa

/-
  The quiet operations, against the model's: operators, conversions, simple makings.
-/
namespace Go.Proofs.YtbcnedhhebjhdaaGreatDoor.Fa

section ops
variable {P : Program} {E : Env0} {D : Nat → Prop} {ε : Env} {h : Heap} {n : Nat} {w : World} {a : Act} {lc : Lc} {fr : Tr AV} {l : List Nat}

theorem qBinH_ok (c : OpAt P E D ε h n w a lc fr l) (f : Heap → AV → AV → Option AV) (x y : Operand) (hx : ∀ u, x = .tmp u → u ∈ l) (hy : ∀ u, y = .tmp u → u ∈ l) {S : Sem Value}
    (hf : ∀ u v r, a.eval x = g ε u → a.eval y = g ε v → okv D ε u → okv D ε v → f h u v = some r → S.run P w = .ok (g ε r) w ∧ okv D ε r) :
    QRes D ε n w (qBinH f (cOpd x) (cOpd y) lc fr h n) ((do pure (.value (← S)) : Sem Next).run P w) := by
  refine oq_elim (Φ := fun r => QRes D ε n w r _) trivial fun u hu => ?_
  obtain ⟨h1, h2⟩ := c.gt hu hx
  refine oq_elim (Φ := fun r => QRes D ε n w r _) trivial fun v hv => ?_
  obtain ⟨h3, h4⟩ := c.gt hv hy
  refine oq_elim (Φ := fun r => QRes D ε n w r _) trivial fun r hr => ?_
  obtain ⟨h5, h6⟩ := hf u v r h1 h3 h2 h4 hr
  exact .mkVal (by simp [h5]) h6
theorem qBin_ok (c : OpAt P E D ε h n w a lc fr l) (f : AV → AV → Option AV) (x y : Operand) (hx : ∀ u, x = .tmp u → u ∈ l) (hy : ∀ u, y = .tmp u → u ∈ l) {S : Sem Value}
    (hf : ∀ u v r, a.eval x = g ε u → a.eval y = g ε v → okv D ε u → okv D ε v → f u v = some r → S.run P w = .ok (g ε r) w ∧ okv D ε r) :
    QRes D ε n w (qBin f (cOpd x) (cOpd y) lc fr h n) ((do pure (.value (← S)) : Sem Next).run P w) :=
  qBinH_ok c (fun _ => f) x y hx hy hf

/-- Values that '==' does not guard. -/
def tame (c : Bool) : Value → Value → Bool
  | .nilIface, .nilIface => c
  | .agg _, .agg _ => false
  | _, _ => true
theorem eqGuard_tame (op : BinOp) (t : TypeId) (x y : Operand) {u v : Value} (ht : tame (isConstO x || isConstO y) u v = true) : (eqGuard op t x y u v).run P w = .ok () w := by
  cases op <;> simp only [eqGuard, Bool.not_true, Bool.not_false, Bool.false_eq_true, if_false, if_true] <;> try rfl
  all_goals
    split
    · simp only [tame, Bool.or_eq_true] at ht
      cases x <;> cases y <;> simp_all [isConstO]
    · simp [tame] at ht
    · rfl
theorem eqGuard_agg (op : BinOp) (t : TypeId) (x y : Operand) {u v : Array Value} (hg : P.eqGuardType P.depth t = false) : (eqGuard op t x y (.agg u) (.agg v)).run P w = .ok () w := by
  cases op <;> simp only [eqGuard, Bool.not_true, Bool.not_false, Bool.false_eq_true, if_false, if_true] <;> first | rfl | simp [hg]

theorem isEqOp_cases {op : BinOp} (h : isEqOp op = true) : (op = .eql ∧ isNeqOp op = false) ∨ (op = .neq ∧ isNeqOp op = true) := by
  cases op <;> first | (cases h; done) | exact .inl ⟨rfl, rfl⟩ | exact .inr ⟨rfl, rfl⟩

/-- Values that 'binOp' hands to '=='. -/
def plainEq : Value → Value → Bool
  | .int .., .int .. => false
  | .float .., .float .. => false
  | .complex .., .complex .. => false
  | .string _, .string _ => false
  | _, _ => true
theorem binOp_eql (t : TypeId) {u v : Value} (hp : plainEq u v = true) : binOp .eql t u v = (do pure (.bool (← Op.equal t u v))) := by
  unfold binOp
  split <;> first | rfl | (simp [plainEq] at hp; done) | (simp_all; done)
theorem binOp_neq (t : TypeId) {u v : Value} (hp : plainEq u v = true) : binOp .neq t u v = (do pure (.bool (!(← Op.equal t u v)))) := by
  unfold binOp
  split <;> first | rfl | (simp [plainEq] at hp; done) | (simp_all; done)

theorem eq2_ok (hE : EnvOk P E) (hs : Sim D ε h.find w) {op : BinOp} (hop : isEqOp op = true) (t : TypeId) {x y : Operand} {u v r : AV} (hu : okv D ε u) (hv : okv D ε v)
    (hr : eq2 E t (isNeqOp op) h u v = some r) (hg : (eqGuard op t x y (g ε u) (g ε v)).run P w = .ok () w) (hp : plainEq (g ε u) (g ε v) = true) :
    ((do eqGuard op t x y (g ε u) (g ε v); binOp op t (g ε u) (g ε v)) : Sem Value).run P w = .ok (g ε r) w ∧ okv D ε r := by
  unfold eq2 at hr
  rw [ob_eq_some] at hr
  obtain ⟨b, hb, hr⟩ := hr
  have heq : (Op.equal t (g ε u) (g ε v)).run P w = .ok b w := eqA_ok hE hs 9 Op.maxDepth (by simp [Op.maxDepth]) t u v b hu hv hb
  obtain ⟨h1, h2⟩ := mkBool_some (ε := ε) (D := D) hr
  refine ⟨?_, h2⟩
  rw [Sem.run_bind, hg, h1]
  rcases isEqOp_cases hop with ⟨rfl, hn⟩ | ⟨rfl, hn⟩
  · rw [binOp_eql t hp, hn]
    simp [heq]
  · rw [binOp_neq t hp, hn]
    simp [heq]

section shapes
variable {c : Bool} {x y : AV} {b : Bool}
theorem eqBool_shape (hb : eqBool x y = some b) : tame c (g ε x) (g ε y) = true ∧ plainEq (g ε x) (g ε y) = true := by
  cases x <;> first | (cases hb; done) | skip
  all_goals cases y <;> first | (cases hb; done) | exact ⟨by simp [g, tame], by simp [g, plainEq]⟩
theorem eqPtr_shape (hb : eqPtr h x y = some b) : tame c (g ε x) (g ε y) = true ∧ plainEq (g ε x) (g ε y) = true := by
  cases x <;> first | (cases hb; done) | skip
  all_goals cases y <;> first | (cases hb; done) | exact ⟨by simp [g, tame], by simp [g, plainEq]⟩
theorem eqSlice_shape (hb : eqSlice x y = some b) : tame c (g ε x) (g ε y) = true ∧ plainEq (g ε x) (g ε y) = true := by
  cases x <;> first | (cases hb; done) | skip
  all_goals cases y <;> first | (cases hb; done) | exact ⟨by simp [g, tame], by simp [g, plainEq]⟩
theorem eqMap_shape (hb : eqMap x y = some b) : tame c (g ε x) (g ε y) = true ∧ plainEq (g ε x) (g ε y) = true := by
  cases x <;> first | (cases hb; done) | skip
  all_goals cases y <;> first | (cases hb; done) | exact ⟨by simp [g, tame], by simp [g, plainEq]⟩
theorem eqFunc_shape (hb : eqFunc x y = some b) : tame c (g ε x) (g ε y) = true ∧ plainEq (g ε x) (g ε y) = true := by
  cases x <;> first | (cases hb; done) | skip
  all_goals cases y <;> first | (cases hb; done) | exact ⟨by simp [g, tame], by simp [g, plainEq]⟩
theorem eqIface_shape {eq : TypeId → AV → AV → Option Bool} {cmp : TypeId → Bool} (hb : eqIface eq cmp x y = some b) (hc : ifaceOk c x y = true) : tame c (g ε x) (g ε y) = true ∧ plainEq (g ε x) (g ε y) = true := by
  cases x <;> first | (cases hb; done) | skip
  all_goals cases y <;> first | (cases hb; done) | exact ⟨by first | (simp [g, tame]; done) | (cases c <;> first | (simp [g, tame]; done) | cases hc), by simp [g, plainEq]⟩
end shapes

theorem eq2_desc {t : TypeId} {neg : Bool} {u v r : AV} {i : ATy} (hi : E.type t = some i) (hr : eq2 E t neg h u v = some r) : ∃ b, eqDesc E h (eqA E h 8) i u v = some b := by
  unfold eq2 at hr
  rw [ob_eq_some] at hr
  obtain ⟨b, hb, _⟩ := hr
  have hb' : ob (E.type t) (fun i => eqDesc E h (eqA E h 8) i u v) = some b := hb
  rw [hi] at hb'
  exact ⟨b, hb'⟩

theorem cBin_ok (c : OpAt P E D ε h n w a lc fr l) (op : BinOp) (t : TypeId) (x y : Operand) (hx : ∀ u, x = .tmp u → u ∈ l) (hy : ∀ u, y = .tmp u → u ∈ l) {q : QF} (hq : cBin E op t x y = some q) :
    QRes D ε n w (q lc fr h n) ((do pure (.value (← (do eqGuard op t x y (a.eval x) (a.eval y); binOp op t (a.eval x) (a.eval y)))) : Sem Next).run P w) := by
  unfold cBin at hq
  rw [bi_eq] at hq
  split at hq
  · injection hq with hq
    subst hq
    refine qBin_ok c _ x y hx hy fun u v r h1 h2 h3 h4 hr => ?_
    unfold shift2 at hr
    cases u <;> first | (cases hr; done) | skip
    cases v <;> first | (cases hr; done) | skip
    rename_i k a1 j b1
    cases b1 with
    | negSucc m => cases hr
    | ofNat m =>
      have hr' : shiftOp op k a1 m = some r := hr
      obtain ⟨h5, h6⟩ := shiftOp_ok (P := P) (w := w) (ε := ε) (D := D) op t k j a1 m hr'
      rw [h1, h2]
      refine ⟨?_, h6⟩
      rw [Sem.run_bind, eqGuard_tame op t x y (by simp [g, tame])]
      simp only [g]
      exact h5
  · rw [ob_eq_some] at hq
    obtain ⟨i, hi, hq⟩ := hq
    have hty := c.env.tyOk hi
    have heq : ∀ (cond : ∀ (u v : AV) (b : Bool), eqDesc E h (eqA E h 8) i u v = some b → (eqGuard op t x y (g ε u) (g ε v)).run P w = .ok () w ∧ plainEq (g ε u) (g ε v) = true) {q : QF},
        bi (isEqOp op) (some (qBinH (eq2 E t (isNeqOp op)) (cOpd x) (cOpd y))) none = some q → QRes D ε n w (q lc fr h n) ((do pure (.value (← (do eqGuard op t x y (a.eval x) (a.eval y); binOp op t (a.eval x) (a.eval y)))) : Sem Next).run P w) := by
      intro cond q hq
      rw [bi_eq] at hq
      split at hq
      · rename_i hop
        injection hq with hq
        subst hq
        refine qBinH_ok c _ x y hx hy fun u v r h1 h2 h3 h4 hr => ?_
        obtain ⟨b, hb⟩ := eq2_desc hi hr
        obtain ⟨g1, g2⟩ := cond u v b hb
        rw [h1, h2]
        exact eq2_ok c.env c.sim hop t h3 h4 hr g1 g2
      · cases hq
    cases hdesc : i.desc with
    | bool =>
      rw [hdesc] at hq
      refine heq (fun u v b hb => ?_) hq
      unfold eqDesc at hb
      rw [hdesc] at hb
      obtain ⟨g1, g2⟩ := eqBool_shape (ε := ε) (c := isConstO x || isConstO y) hb
      exact ⟨eqGuard_tame op t x y g1, g2⟩
    | int k =>
      rw [hdesc] at hq
      have hq' : some (qBin (int2 (intOp op) none) (cOpd x) (cOpd y)) = some q := hq
      injection hq' with hq'
      subst hq'
      refine qBin_ok c _ x y hx hy fun u v r h1 h2 h3 h4 hr => ?_
      unfold int2 at hr
      cases u <;> first | (cases hr; done) | skip
      cases v <;> first | (cases hr; done) | skip
      rename_i k1 a1 k2 b1
      have hr' : bi (kindEq k1 k2) (intOp op k1 a1 b1) none = some r := hr
      rw [bi_eq] at hr'
      split at hr'
      · rename_i hk
        rw [kindEq_eq] at hk
        have hk' : k1 = k2 := by simpa using hk
        subst hk'
        obtain ⟨h5, h6⟩ := intOp_ok (P := P) (w := w) (ε := ε) (D := D) op t k1 a1 b1 hr'
        rw [h1, h2]
        refine ⟨?_, h6⟩
        rw [Sem.run_bind, eqGuard_tame op t x y (by simp [g, tame])]
        simp only [g]
        exact h5
      · cases hr'
    | string =>
      rw [hdesc] at hq
      have hq' : some (qBin (str2 (strOp op)) (cOpd x) (cOpd y)) = some q := hq
      injection hq' with hq'
      subst hq'
      refine qBin_ok c _ x y hx hy fun u v r h1 h2 h3 h4 hr => ?_
      unfold str2 at hr
      cases u <;> first | (cases hr; done) | skip
      cases v <;> first | (cases hr; done) | skip
      rename_i a1 b1
      obtain ⟨h5, h6⟩ := strOp_ok (P := P) (w := w) (ε := ε) (D := D) op t a1 b1 hr
      rw [h1, h2]
      refine ⟨?_, h6⟩
      rw [Sem.run_bind, eqGuard_tame op t x y (by simp [g, tame])]
      simp only [g]
      exact h5
    | pointer e =>
      rw [hdesc] at hq
      refine heq (fun u v b hb => ?_) hq
      unfold eqDesc at hb
      rw [hdesc] at hb
      have hb' : ob (E.size e) (fun s => bi (Nat.beq s 0) none (eqPtr h u v)) = some b := hb
      rw [ob_eq_some] at hb'
      obtain ⟨s, _, hb'⟩ := hb'
      rw [bi_eq] at hb'
      split at hb'
      · cases hb'
      · obtain ⟨g1, g2⟩ := eqPtr_shape (ε := ε) (c := isConstO x || isConstO y) hb'
        exact ⟨eqGuard_tame op t x y g1, g2⟩
    | slice e =>
      rw [hdesc] at hq
      refine heq (fun u v b hb => ?_) hq
      unfold eqDesc at hb
      rw [hdesc] at hb
      obtain ⟨g1, g2⟩ := eqSlice_shape (ε := ε) (c := isConstO x || isConstO y) hb
      exact ⟨eqGuard_tame op t x y g1, g2⟩
    | array m e => rw [hdesc] at hq; cases hq
    | map k e =>
      rw [hdesc] at hq
      refine heq (fun u v b hb => ?_) hq
      unfold eqDesc at hb
      rw [hdesc] at hb
      obtain ⟨g1, g2⟩ := eqMap_shape (ε := ε) (c := isConstO x || isConstO y) hb
      exact ⟨eqGuard_tame op t x y g1, g2⟩
    | struct fs =>
      rw [hdesc] at hq
      have hq' : bi (andb (isEqOp op) (notb i.guarded)) (some (qBinH (eq2 E t (isNeqOp op)) (cOpd x) (cOpd y))) none = some q := hq
      rw [bi_eq] at hq'
      split at hq'
      · rename_i hop
        simp only [andb_eq, notb_eq, Bool.and_eq_true, Bool.not_eq_true'] at hop
        refine heq (fun u v b hb => ?_) (by rw [hop.1]; exact hq')
        unfold eqDesc at hb
        rw [hdesc] at hb
        have hb' : bi i.stood none (onAgg none (fun xs => onAgg none (fun ys => eqFields E (eqA E h 8) xs ys fs) v) u) = some b := hb
        rw [bi_eq] at hb'
        split at hb'
        · cases hb'
        · cases u <;> first | (cases hb'; done) | skip
          cases v <;> first | (cases hb'; done) | skip
          exact ⟨by simp only [g]; exact eqGuard_agg op t x y (by rw [← hty.guarded]; exact hop.2), by simp [g, plainEq]⟩
      · cases hq'
    | func =>
      rw [hdesc] at hq
      refine heq (fun u v b hb => ?_) hq
      unfold eqDesc at hb
      rw [hdesc] at hb
      obtain ⟨g1, g2⟩ := eqFunc_shape (ε := ε) (c := isConstO x || isConstO y) hb
      exact ⟨eqGuard_tame op t x y g1, g2⟩
    | interface =>
      rw [hdesc] at hq
      have hq' : bi (isEqOp op) (some (qBinH (eqIf E t (isNeqOp op) (orb (isConstO x) (isConstO y))) (cOpd x) (cOpd y))) none = some q := hq
      rw [bi_eq] at hq'
      split at hq'
      · rename_i hop
        injection hq' with hq'
        subst hq'
        refine qBinH_ok c _ x y hx hy fun u v r h1 h2 h3 h4 hr => ?_
        unfold eqIf at hr
        rw [bi_eq] at hr
        split at hr
        · rename_i hc
          obtain ⟨b, hb⟩ := eq2_desc hi hr
          unfold eqDesc at hb
          rw [hdesc] at hb
          rw [orb_eq] at hc
          obtain ⟨g1, g2⟩ := eqIface_shape (ε := ε) hb hc
          rw [h1, h2]
          exact eq2_ok c.env c.sim hop t h3 h4 hr (eqGuard_tame op t x y g1) g2
        · cases hr
      · cases hq'
    | other => rw [hdesc] at hq; cases hq

theorem cUn_ok (c : OpAt P E D ε h n w a lc fr l) (op : UnOp) (x : Operand) (hx : ∀ u, x = .tmp u → u ∈ l) {q : QF} (hq : cUn op x = some q) :
    QRes D ε n w (q lc fr h n) ((do pure (.value (← Op.unary op (a.eval x))) : Sem Next).run P w) := by
  cases op <;> first | (cases hq; done) | skip
  all_goals
    injection hq with hq
    subst hq
    refine oq_elim (Φ := fun r => QRes D ε n w r _) trivial fun u hu => ?_
    obtain ⟨h1, h2⟩ := c.gt hu hx
    refine oq_elim (Φ := fun r => QRes D ε n w r _) trivial fun r hr => ?_
    cases u <;> first | (cases hr; done) | skip
  · obtain ⟨h3, h4⟩ := mkInt_some (ε := ε) (D := D) hr
    refine .mkVal ?_ h4
    rw [h1, h3]
    simp only [g, Op.unary, Op.intArith, Sem.run_bind, Sem.run_pure, Result.andThen_ok]
    rfl
  · obtain ⟨h3, h4⟩ := mkBool_some (ε := ε) (D := D) hr
    refine .mkVal ?_ h4
    rw [h1, h3]
    simp [g, Op.unary]

end ops
end Go.Proofs.YtbcnedhhebjhdaaGreatDoor.Fa
