/-
  Regions in the text's order. No condition.
-/
import Derived.Test.YtbcnedhhebjhdaaGreatDoorFa4
import Derived.AtR

/-
  A frame of the machine at a region's operation: one step for each kind of end that an operation's run may have.
-/
namespace Go.Proofs.YtbcnedhhebjhdaaGreatDoor.Fa

section steps
variable {P : Program} {b : Frame} {a : Act} {k : List Item} {cs : List Frame} {w w' : World} {ops : Array Oper} {i : Nat} {rest : List Nat} {o : Oper}

theorem finR (ho : ops[i]? = some o) (v : Value) : (b.atR a (.inRegion ops (i :: rest) :: k)).finish v = b.atR (a.put o.dst v) (.inRegion ops rest :: k) := by
  rw [Frame.finish_atR, ho]; rfl

theorem stepO_value {v : Value} (ho : ops[i]? = some o) (hw : Region.wanted o (yielded ops a.tmps) = true) (hr : (o.semAt b.roundOf a.eval).run P w = .ok (.value v) w') :
    step P (lone (b.atR a (.inRegion ops (i :: rest) :: k)) cs w) = .next (lone (b.atR (a.put o.dst v) (.inRegion ops rest :: k)) cs w') := by
  refine step_lone_go ?_
  rw [stepGR_op ho hw, ← finR ho]
  simp [stepG.apply, Sem.runT_eq, hr]

theorem stepO_skip (ho : ops[i]? = some o) (hw : Region.wanted o (yielded ops a.tmps) = true) (hr : (o.semAt b.roundOf a.eval).run P w = .ok .skip w') :
    step P (lone (b.atR a (.inRegion ops (i :: rest) :: k)) cs w) = .next (lone (b.atR (a.put o.dst undef) (.inRegion ops rest :: k)) cs w') := by
  refine step_lone_go ?_
  rw [stepGR_op ho hw, ← finR ho]
  simp [stepG.apply, Sem.runT_eq, hr]

theorem stepO_unwanted (ho : ops[i]? = some o) (hw : Region.wanted o (yielded ops a.tmps) = false) :
    step P (lone (b.atR a (.inRegion ops (i :: rest) :: k)) cs w) = .next (lone (b.atR (a.put o.dst undef) (.inRegion ops rest :: k)) cs w) := by
  have := stepR_op_skip (P := P) (b := b) (a := a) (k := k) (cs := cs) (w := w) (ops := ops) (i := i) (rest := rest) (by simp [ho, hw])
  rw [ho] at this
  exact this

theorem stepO_enter {f : FuncId} {args : Array Value} (ho : ops[i]? = some o) (hw : Region.wanted o (yielded ops a.tmps) = true) (hr : (o.semAt b.roundOf a.eval).run P w = .ok (.enter f args) w') :
    step P (lone (b.atR a (.inRegion ops (i :: rest) :: k)) cs w) = .next (lone (Frame.enter P f args .normal) (b.atR a (.inRegion ops (i :: rest) :: k) :: cs) w') := by
  refine step_lone_go ?_
  rw [stepGR_op ho hw]
  simp [stepG.apply, Sem.runT_eq, hr, Frame.atR]

theorem stepO_round {l : Nat} {f : FuncId} {tmps : Array Value} {x y : Code} (ho : ops[i]? = some o) (hw : Region.wanted o (yielded ops a.tmps) = true) (hr : (o.semAt b.roundOf a.eval).run P w = .ok (.round l f tmps x y) w') :
    step P (lone (b.atR a (.inRegion ops (i :: rest) :: k)) cs w) = .next (lone (Frame.round l f tmps x y .normal) (b.atR a (.inRegion ops (i :: rest) :: k) :: cs) w') := by
  refine step_lone_go ?_
  rw [stepGR_op ho hw]
  simp [stepG.apply, Sem.runT_eq, hr]

theorem stepO_defer {d : Deferred} (ho : ops[i]? = some o) (hw : Region.wanted o (yielded ops a.tmps) = true) (hr : (o.semAt b.roundOf a.eval).run P w = .ok (.defer d) w') :
    step P (lone (b.atR a (.inRegion ops (i :: rest) :: k)) cs w) = .next (lone (b.atR ({ a with defers := d :: a.defers }.put o.dst undef) (.inRegion ops rest :: k)) cs w') := by
  refine step_lone_go ?_
  have h1 : ({ b.atR a (.inRegion ops (i :: rest) :: k) with defers := d :: a.defers } : Frame).finish undef = b.atR ({ a with defers := d :: a.defers }.put o.dst undef) (.inRegion ops rest :: k) := by
    have := Frame.finish_atR b { a with defers := d :: a.defers } ops i rest k undef
    rw [ho] at this; exact this
  rw [stepGR_op ho hw]
  simp only [stepG.apply, Sem.runT_eq, hr, GStep.bare_after]
  exact congrArg (fun fr => GStep.go { frame := fr, callers := cs, status := .running, dying := none } w') h1

theorem stepO_panic {v : Value} (ho : ops[i]? = some o) (hw : Region.wanted o (yielded ops a.tmps) = true) (hr : (o.semAt b.roundOf a.eval).run P w = .halt (.panic v) w') :
    step P (lone (b.atR a (.inRegion ops (i :: rest) :: k)) cs w) = .next (lone { b.atR a (.inRegion ops (i :: rest) :: k) with mode := .panicking [{ v, recovered := false }] } cs w') := by
  refine step_lone_go ?_
  rw [stepGR_op ho hw]
  simp [stepG.apply, Sem.runT_eq, hr, Frame.raise, Frame.atR]

theorem stepO_recover_none (ho : ops[i]? = some o) (hw : Region.wanted o (yielded ops a.tmps) = true) (hb : b.roundOf = none) (hr : (o.semAt b.roundOf a.eval).run P w = .ok .recover w')
    (ht : tryRecover (b.atR a (.inRegion ops (i :: rest) :: k)) cs = none) :
    step P (lone (b.atR a (.inRegion ops (i :: rest) :: k)) cs w) = .next (lone (b.atR (a.put o.dst .nilIface) (.inRegion ops rest :: k)) cs w') := by
  refine step_lone_go ?_
  rw [stepGR_op ho hw, ← finR ho]
  have hb' : (b.atR a (.inRegion ops (i :: rest) :: k)).roundOf = none := hb
  simp [stepG.apply, Sem.runT_eq, hr, hb', ht]

theorem stepO_recover_some {v : Value} {cs' : List Frame} (ho : ops[i]? = some o) (hw : Region.wanted o (yielded ops a.tmps) = true) (hb : b.roundOf = none) (hr : (o.semAt b.roundOf a.eval).run P w = .ok .recover w')
    (ht : tryRecover (b.atR a (.inRegion ops (i :: rest) :: k)) cs = some (v, cs')) :
    step P (lone (b.atR a (.inRegion ops (i :: rest) :: k)) cs w) = .next (lone (b.atR (a.put o.dst v) (.inRegion ops rest :: k)) cs' w') := by
  refine step_lone_go ?_
  rw [stepGR_op ho hw, ← finR ho]
  have hb' : (b.atR a (.inRegion ops (i :: rest) :: k)).roundOf = none := hb
  simp [stepG.apply, Sem.runT_eq, hr, hb', ht]

end steps

end Go.Proofs.YtbcnedhhebjhdaaGreatDoor.Fa

/-
  What is known of a frame while a region is gone through; what a call must come to; one operation of a region.
-/
namespace Go.Proofs.YtbcnedhhebjhdaaGreatDoor.Fa

def gPan (ε : Env) (p : APan) : PanicEntry := { v := g ε p.v, recovered := p.recovered }
def panOk (D : Nat → Prop) (ε : Env) (ch : List APan) : Prop := ∀ p ∈ ch, okv D ε p.v

/-- The callers, as a chain to recover from leaves them. -/
def csAt (ε : Env) : Option (List APan) → List Frame → List Frame
  | some ch, c :: cs => { c with mode := .panicking (ch.map (gPan ε)) } :: cs
  | _, cs => cs

def UmOk (D : Nat → Prop) (ε : Env) (kind : CallKind) (cs : List Frame) : Option (List APan) → Prop
  | none => kind = .normal ∨ (kind = .deferred ∧ ∃ c rest, cs = c :: rest ∧ c.mode = .returning)
  | some ch => kind = .deferred ∧ cs ≠ [] ∧ panOk D ε ch

def DefOk (D : Nat → Prop) (ε : Env) : ADef → Deferred → Prop
  | .call f as, d => (∃ xs ys, d = { target := .fn (.func f) ys, args := xs } ∧ xs ++ ys = (as.map (g ε)).toArray) ∧ ∀ x ∈ as, okv D ε x
  | .mark id, d => d = { target := .collected (ε.blk id), args := #[] } ∧ D id

def DefsOk (D : Nat → Prop) (ε : Env) : List ADef → List Deferred → Prop
  | [], l => l = []
  | x :: xs, l => ∃ d ds, l = d :: ds ∧ DefOk D ε x d ∧ DefsOk D ε xs ds

theorem gPan_agree {D : Nat → Prop} {ε ε' : Env} (h : Agree D ε ε') {ch : List APan} (hc : panOk D ε ch) : ch.map (gPan ε') = ch.map (gPan ε) :=
  List.map_congr_left fun p hp => by simp only [gPan]; rw [g_agree h _ (hc p hp)]
theorem panOk.agree {D D' : Nat → Prop} {ε ε' : Env} {ch : List APan} (hc : panOk D ε ch) (h : Agree D ε ε') (hd : ∀ i, D i → D' i) : panOk D' ε' ch := fun p hp => okv_agree h hd _ (hc p hp)
theorem UmOk.agree {D D' : Nat → Prop} {ε ε' : Env} {kind : CallKind} {cs : List Frame} {um : Option (List APan)} (hu : UmOk D ε kind cs um) (h : Agree D ε ε') (hd : ∀ i, D i → D' i) : UmOk D' ε' kind cs um := by
  cases um with
  | none => exact hu
  | some ch => exact ⟨hu.1, hu.2.1, hu.2.2.agree h hd⟩
theorem csAt_agree {D : Nat → Prop} {ε ε' : Env} {kind : CallKind} {cs : List Frame} {um : Option (List APan)} (hu : UmOk D ε kind cs um) (h : Agree D ε ε') : csAt ε' um cs = csAt ε um cs := by
  cases um with
  | none => cases cs <;> rfl
  | some ch =>
    cases cs with
    | nil => rfl
    | cons c cs => simp only [csAt]; rw [gPan_agree h hu.2.2]
theorem map_g_agree {D : Nat → Prop} {ε ε' : Env} (h : Agree D ε ε') {l : List AV} (hl : ∀ x ∈ l, okv D ε x) : l.map (g ε') = l.map (g ε) := gs_agree h l hl
theorem DefOk.agree {D D' : Nat → Prop} {ε ε' : Env} {x : ADef} {d : Deferred} (hx : DefOk D ε x d) (h : Agree D ε ε') (hd : ∀ i, D i → D' i) : DefOk D' ε' x d := by
  cases x with
  | call f as =>
    obtain ⟨⟨xs, ys, h1, h2⟩, h3⟩ := hx
    exact ⟨⟨xs, ys, h1, by rw [h2, map_g_agree h h3]⟩, okvs_agree h hd as h3⟩
  | mark id => exact ⟨by rw [hx.1, (h id hx.2).1], hd id hx.2⟩
theorem DefsOk.agree {D D' : Nat → Prop} {ε ε' : Env} (h : Agree D ε ε') (hd : ∀ i, D i → D' i) : ∀ {xs : List ADef} {ds : List Deferred}, DefsOk D ε xs ds → DefsOk D' ε' xs ds
  | [], _, hx => hx
  | _ :: _, _, hx => by
    obtain ⟨d, ds, h1, h2, h3⟩ := hx
    exact ⟨d, ds, h1, h2.agree h hd, h3.agree h hd⟩

/-- A frame, and what is known of it: of the temporaries R. -/
structure InvR (R : Nat → Prop) (P : Program) (E : Env0) (nt mask : Nat) (b : Frame) (cs : List Frame) (ε : Env) (lc : Lc) (fr : Tr AV) (st : St) (a : Act) (w : World) : Prop where
  env : EnvOk P E
  glob : GlobOk (Dn st.next) ε
  sim : Sim (Dn st.next) ε st.heap.find w
  reads : ∀ t, R t → ∀ v, lc.get fr t = some v → a.tmps.getD t undef = g ε v ∧ okv (Dn st.next) ε v
  size : a.tmps.size = nt
  dom : ∀ t v, fr.find t = some v → bit mask t = true
  defs : DefsOk (Dn st.next) ε st.defers a.defers
  um : UmOk (Dn st.next) ε b.kind cs st.um

abbrev Inv := InvR fun _ => True

section inv
variable {R R' : Nat → Prop} {P : Program} {E : Env0} {nt mask : Nat} {b : Frame} {cs : List Frame} {ε ε' : Env} {lc : Lc} {fr : Tr AV} {st st' : St} {a : Act} {w w' : World}

theorem Dn_le {n m : Nat} (h : n ≤ m) : ∀ i, Dn n i → Dn m i := fun _ hi => Nat.lt_of_lt_of_le hi h

theorem InvR.opAt (h : InvR R P E nt mask b cs ε lc fr st a w) (l : List Nat) (hl : ∀ t ∈ l, R t) : OpAt P E (Dn st.next) ε st.heap st.next w a lc fr l where
  env := h.env
  glob := h.glob
  sim := h.sim
  reads t ht v hv := h.reads t (hl t ht) v hv
  new := Nat.lt_irrefl _

/-- Work that leaves the frame as it is. -/
theorem InvR.after (h : InvR R P E nt mask b cs ε lc fr st a w) (ha : After ε st.heap st.next w ε' st'.heap st'.next w') (hu : st'.um = st.um) (hd : st'.defers = st.defers) : InvR R P E nt mask b cs ε' lc fr st' a w' where
  env := h.env
  glob := h.glob.agree ha.agree (Dn_le ha.le)
  sim := ha.sim
  reads t ht v hv := by
    obtain ⟨h1, h2⟩ := h.reads t ht v hv
    exact ⟨by rw [h1, g_agree ha.agree v h2], okv_agree ha.agree (Dn_le ha.le) v h2⟩
  size := h.size
  dom := h.dom
  defs := by rw [hd]; exact h.defs.agree ha.agree (Dn_le ha.le)
  um := by rw [hu]; exact h.um.agree ha.agree (Dn_le ha.le)

theorem Lc.get_cons (t u : Nat) (v : AV) (lc : Lc) (fr : Tr AV) : (Lc.cons t v lc).get fr u = if t = u then some v else lc.get fr u := by
  show Bool.rec (motive := fun _ => Option AV) (lc.get fr u) (some v) (Nat.beq t u) = _
  by_cases h : t = u
  · rw [if_pos h, h, Nat.beq_refl]
  · rw [if_neg h]
    have : Nat.beq t u = false := by cases hb : Nat.beq t u with
      | true => exact absurd (Nat.eq_of_beq_eq_true hb) h
      | false => rfl
    rw [this]
theorem Lc.get_alias (t u x : Nat) (lc : Lc) (fr : Tr AV) : (Lc.alias t x lc).get fr u = if t = u then lc.get fr x else lc.get fr u := by
  show Bool.rec (motive := fun _ => Option AV) (lc.get fr u) (lc.get fr x) (Nat.beq t u) = _
  by_cases h : t = u
  · rw [if_pos h, h, Nat.beq_refl]
  · rw [if_neg h]
    have : Nat.beq t u = false := by cases hb : Nat.beq t u with
      | true => exact absurd (Nat.eq_of_beq_eq_true hb) h
      | false => rfl
    rw [this]
theorem Lc.get_nil (fr : Tr AV) (t : Nat) : Lc.nil.get fr t = fr.find t := rfl

theorem put_tmps (a : Act) (dst : Option Nat) (v : Value) : (a.put dst v).tmps = match dst with | some d => a.tmps.setIfInBounds d v | none => a.tmps := by cases dst <;> rfl
theorem put_defers (a : Act) (dst : Option Nat) (v : Value) : (a.put dst v).defers = a.defers := by cases dst <;> rfl
theorem getD_set {xs : Array Value} {d t : Nat} {v : Value} (hd : d < xs.size) : (xs.setIfInBounds d v).getD t undef = if d = t then v else xs.getD t undef := by
  simp only [Array.getD_eq_getD_getElem?]
  by_cases h : d = t
  · subst h; simp [Array.getElem?_setIfInBounds_self_of_lt hd]
  · simp [h]

/-- A temporary laid. -/
theorem InvR.put (h : InvR R P E nt mask b cs ε lc fr st a w) {dst : Option Nat} (hd : ∀ d, dst = some d → d < nt) (hR : ∀ t, R' t → R t ∨ dst = some t) {v : AV} (hv : okv (Dn st.next) ε v) : InvR R' P E nt mask b cs ε (putLc dst v lc) fr st (a.put dst (g ε v)) w := by
  cases dst with
  | none => exact ⟨h.env, h.glob, h.sim, fun t ht => h.reads t ((hR t ht).resolve_right (by simp)), h.size, h.dom, h.defs, h.um⟩
  | some d =>
    have hlt : d < a.tmps.size := by rw [h.size]; exact hd d rfl
    refine ⟨h.env, h.glob, h.sim, fun t ht u hu => ?_, by rw [put_tmps]; simp [h.size], h.dom, by rw [put_defers]; exact h.defs, h.um⟩
    have hu' : (Lc.cons d v lc).get fr t = some u := hu
    rw [Lc.get_cons] at hu'
    rw [put_tmps]
    simp only
    rw [getD_set hlt]
    split at hu'
    · rename_i he; injection hu' with hu'; subst hu'; rw [if_pos he]; exact ⟨rfl, hv⟩
    · rename_i he; rw [if_neg he]; exact h.reads t ((hR t ht).resolve_right fun h => he (by injection h)) u hu'

/-- A temporary that is as another is. -/
theorem InvR.same (h : InvR R P E nt mask b cs ε lc fr st a w) {dst : Option Nat} (hd : ∀ d, dst = some d → d < nt) (hR : ∀ t, R' t → R t ∨ dst = some t) (u : Nat) (hu : R u) : InvR R' P E nt mask b cs ε (putAs dst u lc) fr st (a.put dst (a.tmps.getD u undef)) w := by
  cases dst with
  | none => exact ⟨h.env, h.glob, h.sim, fun t ht => h.reads t ((hR t ht).resolve_right (by simp)), h.size, h.dom, h.defs, h.um⟩
  | some d =>
    have hlt : d < a.tmps.size := by rw [h.size]; exact hd d rfl
    refine ⟨h.env, h.glob, h.sim, fun t ht x hx => ?_, by rw [put_tmps]; simp [h.size], h.dom, by rw [put_defers]; exact h.defs, h.um⟩
    have hx' : (Lc.alias d u lc).get fr t = some x := hx
    rw [Lc.get_alias] at hx'
    rw [put_tmps]
    simp only
    rw [getD_set hlt]
    split at hx'
    · rename_i he; rw [if_pos he]; exact h.reads u hu x hx'
    · rename_i he; rw [if_neg he]; exact h.reads t ((hR t ht).resolve_right fun h => he (by injection h)) x hx'

theorem okv_undef (D : Nat → Prop) (ε : Env) : okv D ε .undef := by simp [AV.undef, okv]

/-- Nothing is known of a temporary that was not laid; an undefined one may be said of it. -/
theorem InvR.putUndef (h : InvR R P E nt mask b cs ε lc fr st a w) {dst : Option Nat} (hd : ∀ d, dst = some d → d < nt) (hR : ∀ t, R' t → R t ∨ dst = some t) : InvR R' P E nt mask b cs ε (putLc dst .undef lc) fr st (a.put dst undef) w := by
  have := h.put hd hR (okv_undef _ _)
  rw [g_undef] at this
  exact this

end inv

/-! ### Calls -/
def callOk (D : Nat → Prop) (ε : Env) : ACall → Prop
  | .func _ as => ∀ x ∈ as, okv D ε x
  | .yield l as => D l ∧ ∀ x ∈ as, okv D ε x

/-- The frame with which a call begins. -/
def Begins (P : Program) (ε : Env) (w : World) : ACall → Frame → Prop
  | .func f as, fr => fr = Frame.enter P f (as.map (g ε)).toArray .normal ∧ ∃ F, P.funcs[f]? = some F ∧ F.body.isSome = true
  | .yield l as, fr => ∃ f tmps x y, (Instr.yield (ε.blk l) (as.map (g ε)).toArray).run P w = .ok (.round (ε.blk l) f tmps x y) w ∧ fr = Frame.round (ε.blk l) f tmps x y .normal

/-- What a call must come to. -/
def CallRes (P : Program) (ε : Env) (w : World) (fr0 caller : Frame) (cs : List Frame) (st : St) (r : AEnd × St) : Prop :=
  ∃ ε' w', After ε st.heap st.next w ε' r.2.heap r.2.next w' ∧ match r.1 with
    | .returned v => okv (Dn r.2.next) ε' v ∧ Steps P (lone fr0 (caller :: cs) w) (lone (caller.finish (g ε' v)) cs w')
    | .panicked ch => panOk (Dn r.2.next) ε' ch ∧ Steps P (lone fr0 (caller :: cs) w) (lone (caller.raise (ch.map (gPan ε'))) cs w')

def CallSound (P : Program) (call : CallF) : Prop := ∀ c st r, call c st = some r → st.um = none → st.defers = [] → ∀ ε w, GlobOk (Dn st.next) ε → Sim (Dn st.next) ε st.heap.find w → callOk (Dn st.next) ε c →
  ∃ fr0, Begins P ε w c fr0 ∧ ∀ caller cs, CallRes P ε w fr0 caller cs st r

end Go.Proofs.YtbcnedhhebjhdaaGreatDoor.Fa

/-
  One operation of a region, against the machine.
-/
namespace Go.Proofs.YtbcnedhhebjhdaaGreatDoor.Fa

section kinds
theorem quietK_tag (q : QM) : quietK q = .bad ∨ ∃ f, quietK q = .quiet f := by cases q with
  | none => exact .inl rfl
  | some f => exact .inr ⟨f, rfl⟩
theorem loudK_tag (q : LM) : loudK q = .bad ∨ ∃ f, loudK q = .loud f := by cases q with
  | none => exact .inl rfl
  | some f => exact .inr ⟨f, rfl⟩

/-- What is no quiet, no loud operation. -/
def other : CKind → Bool
  | .same _ | .call _ | .defer _ | .panic _ | .recover => true
  | _ => false
theorem quietK_other {q : QM} (h : other (quietK q) = true) : False := by
  rcases quietK_tag q with h1 | ⟨f, h1⟩ <;> rw [h1] at h <;> cases h
theorem loudK_other {q : LM} (h : other (loudK q) = true) : False := by
  rcases loudK_tag q with h1 | ⟨f, h1⟩ <;> rw [h1] at h <;> cases h

theorem builtin_other {E : Env0} {b : Builtin} {ts : List TypeId} {as : List Operand} (h : other (cBuiltinK E b ts as) = true) : b = .recover := by
  unfold cBuiltinK at h
  split at h <;> first | rfl | exact (quietK_other h).elim | exact (loudK_other h).elim | cases h

theorem other_inv {E : Env0} {op : Op} (h : other (cKind E op) = true) :
    (∃ x, (op = .move x ∨ op = .assign x) ∧ cKind E op = cMove x) ∨
    (∃ cl f, op = .call cl ∧ cl.callee = .value f ∧ cKind E op = .call (cCallOf (cOpd f) (cl.args.toList.map cOpd))) ∨
    (∃ cl f, op = .defer cl ∧ cl.callee = .value f ∧ cKind E op = .defer (cCallOf (cOpd f) (cl.args.toList.map cOpd))) ∨
    (∃ x, op = .panic x ∧ cKind E op = .panic (cOpd x)) ∨
    (∃ cl, op = .call cl ∧ cl.callee = .builtin .recover ∧ cKind E op = .recover) := by
  cases op with
  | move x => exact .inl ⟨x, .inl rfl, rfl⟩
  | assign x => exact .inl ⟨x, .inr rfl, rfl⟩
  | panic x => exact .inr (.inr (.inr (.inl ⟨x, rfl, rfl⟩)))
  | call cl =>
    have h' : other (cCallK E cl) = true := h
    unfold cCallK cCallee at h'
    split at h'
    · rename_i f hf
      refine .inr (.inl ⟨cl, f, rfl, hf, ?_⟩)
      show cCallK E cl = _
      unfold cCallK cCallee
      rw [hf]
    · rename_i b hb
      have hr := builtin_other h'
      subst hr
      refine .inr (.inr (.inr (.inr ⟨cl, rfl, hb, ?_⟩)))
      show cCallK E cl = _
      unfold cCallK cCallee
      rw [hb]
      rfl
    · cases h'
  | defer cl =>
    have h' : other (cDeferK cl) = true := h
    unfold cDeferK cCallee at h'
    split at h'
    · rename_i f hf
      refine .inr (.inr (.inl ⟨cl, f, rfl, hf, ?_⟩))
      show cDeferK cl = _
      unfold cDeferK cCallee
      rw [hf]
    · cases h'
    · cases h'
  | _ => first | (cases h; done) | exact (quietK_other h).elim | exact (loudK_other h).elim
end kinds


/-! ### Guards -/
theorem dstsOf_eq (ops : List Oper) : dstsOf ops = ops.map (·.dst) := by
  induction ops with
  | nil => rfl
  | cons o ops ih => show o.dst :: dstsOf ops = _; rw [ih]; rfl

theorem mem_guardReads {dsts : List (Option Nat)} {o : Oper} {g : Nat × Bool} {d : Nat} (hg : o.guard = some g) (hd : dsts[g.1]? = some (some d)) (l : List Nat) : d ∈ guardReads dsts o l := by
  unfold guardReads
  rw [hg]
  simp only [lget_eq, hd]
  exact List.mem_cons_self

theorem wanted_ok {E : Env0} {ops : Array Oper} {o : Oper} {lc : Lc} {fr : Tr AV} {ε : Env} {a : Act} {r : Bool}
    (hr : ∀ t ∈ guardReads (dstsOf ops.toList) o [], ∀ v, lc.get fr t = some v → a.tmps.getD t undef = g ε v)
    (h : wanted (cOp E (dstsOf ops.toList) o) lc fr = some r) : Region.wanted o (yielded ops a.tmps) = r := by
  unfold wanted cOp at h
  unfold Region.wanted
  cases hg : o.guard with
  | none => rw [hg] at h; injection h
  | some gw =>
    obtain ⟨j, want⟩ := gw
    rw [hg] at h
    simp only [lget_eq] at h
    have hd : ((dstsOf ops.toList)[j]?) = (ops[j]?).map (·.dst) := by rw [dstsOf_eq]; simp
    cases hj : (ops[j]?).map (·.dst) with
    | none =>
      rw [hd, hj] at h
      simp only [ob] at h
      injection h with h
      subst h
      have : ops[j]? = none := by cases hx : ops[j]? with
        | none => rfl
        | some o => rw [hx] at hj; cases hj
      simp [yielded, this]
    | some d =>
      rw [hd, hj] at h
      have hjo : ∃ p, ops[j]? = some p ∧ p.dst = d := by cases hx : ops[j]? with
        | none => rw [hx] at hj; cases hj
        | some p => rw [hx] at hj; injection hj with hj; exact ⟨p, rfl, hj⟩
      obtain ⟨p, hp, hpd⟩ := hjo
      cases d with
      | none =>
        injection h with h
        subst h
        simp [yielded, hp, hpd]
      | some d =>
        have h' : ob (lc.get fr d) (fun v => some (onBool false (fun b => eqb b want) v)) = some r := h
        rw [ob_eq_some] at h'
        obtain ⟨v, hv, h'⟩ := h'
        injection h' with h'
        have hval := hr d (mem_guardReads (g := (j, want)) hg (by rw [hd, hj]) []) v hv
        have hy : yielded ops a.tmps j = match a.tmps[d]? with
          | some (.bool b) => some b
          | _ => none := by simp [yielded, hp, hpd]; rfl
        simp only [hy]
        have hget : a.tmps[d]? = some (g ε v) ∨ (a.tmps[d]? = none ∧ undef = g ε v) := by
          rw [Array.getD_eq_getD_getElem?] at hval
          cases hx : a.tmps[d]? with
          | none => rw [hx] at hval; exact .inr ⟨rfl, hval⟩
          | some x => rw [hx] at hval; exact .inl (by rw [← hval]; rfl)
        cases v with
        | bool b =>
          rcases hget with hget | ⟨_, hu⟩
          · rw [hget]
            have : eqb b want = r := h'
            rw [eqb_eq] at this
            subst this
            simp [g]
          · simp [undef, g] at hu
        | _ =>
          have hr' : false = r := h'
          subst hr'
          rcases hget with hget | ⟨hn, _⟩
          · rw [hget]; simp [g]
          · rw [hn]; simp

/-! ### One operation -/
section one
variable {P : Program} {E : Env0} {nt mask : Nat} {b : Frame} {cs : List Frame} {ε : Env} {lc : Lc} {fr : Tr AV} {st : St} {a : Act} {w : World} {k : List Item} {ops : Array Oper} {i : Nat} {rest : List Nat} {o : Oper}

/-- What a stretch of a region's operations, from m on, must come to. -/
def ROSoundR (R R' : Nat → Prop) (F : Act → Prop) (P : Program) (E : Env0) (nt mask : Nat) (b : Frame) (cs : List Frame) (fr : Tr AV) (k : List Item) (ops : Array Oper) (rest : List Nat) (ε : Env) (st : St) (w : World) (m : Machine) : RO → Prop
  | .fail => True
  | .on lc' st' => ∃ ε' a' w', InvR R' P E nt mask b cs ε' lc' fr st' a' w' ∧ F a' ∧ After ε st.heap st.next w ε' st'.heap st'.next w' ∧ Steps P m (lone (b.atR a' (.inRegion ops rest :: k)) (csAt ε' st'.um cs) w')
  | .panic ch lc' st' => ∃ ε' a' w' todo, InvR R P E nt mask b cs ε' lc' fr st' a' w' ∧ After ε st.heap st.next w ε' st'.heap st'.next w' ∧ panOk (Dn st'.next) ε' ch ∧
      Steps P m (lone { b.atR a' todo with mode := .panicking (ch.map (gPan ε')) } (csAt ε' st'.um cs) w')

abbrev ROSound := ROSoundR (fun _ => True) (fun _ => True) fun _ => True

theorem run_call {cl : Call} {f : Operand} {fv : AV} {as : List AV} {c : ACall} (P : Program) (ρ : Operand → Value) (o : Oper) (ho : o.op = .call cl) (hc : cl.callee = .value f) (hf : ρ f = g ε fv) (has : cl.args.toList.map ρ = as.map (g ε)) (hq : asCall as fv = some c) (w : World) :
    ((∃ n xs, c = .func n xs ∧ (execOp ρ o).run P w = (callFunc n (xs.map (g ε)).toArray).run P w) ∨ (∃ l xs, c = .yield l xs ∧ (execOp ρ o).run P w = (Instr.yield (ε.blk l) (xs.map (g ε)).toArray).run P w)) := by
  have hargs : cl.args.map ρ = (as.map (g ε)).toArray := by apply Array.ext'; simp [has]
  have hex : execOp ρ o = (do let d ← resolve ρ cl o.type; invoke d.target d.args) := by simp only [execOp, ho]
  have hres : resolve ρ cl o.type = Deferred.ofValue (g ε fv) (as.map (g ε)).toArray := by simp only [resolve, hc, hf, hargs]
  rw [hex, hres]
  unfold asCall at hq
  cases fv with
  | fn fn first cap =>
    cases fn with
    | func n =>
      have hq' : some (ACall.func n (lapp first (lapp as cap))) = some c := hq
      injection hq' with hq'
      refine .inl ⟨n, _, hq'.symm, ?_⟩
      simp only [Deferred.ofValue, g, gFn, pure_bind, invoke]
      congr 2
      apply Array.ext'
      simp
    | yield l =>
      have hq' : some (ACall.yield l (lapp first as)) = some c := hq
      injection hq' with hq'
      refine .inr ⟨l, _, hq'.symm, ?_⟩
      simp only [Deferred.ofValue, g, gFn, pure_bind, invoke]
      congr 2
      apply Array.ext'
      simp
    | _ => cases hq
  | _ => cases hq

theorem asCall_ok {D : Nat → Prop} {fv : AV} {as : List AV} {c : ACall} (hf : okv D ε fv) (has : ∀ x ∈ as, okv D ε x) (hq : asCall as fv = some c) : callOk D ε c := by
  unfold asCall at hq
  cases fv with
  | fn fn first cap =>
    simp only [okv] at hf
    cases fn with
    | func n =>
      have hq' : some (ACall.func n (lapp first (lapp as cap))) = some c := hq
      injection hq' with hq'
      subst hq'
      intro x hx
      simp only [lapp_eq, List.mem_append] at hx
      rcases hx with hx | hx | hx
      · exact hf.2.1 x hx
      · exact has x hx
      · exact hf.2.2 x hx
    | yield l =>
      have hq' : some (ACall.yield l (lapp first as)) = some c := hq
      injection hq' with hq'
      subst hq'
      refine ⟨hf.1 l rfl, fun x hx => ?_⟩
      simp only [lapp_eq, List.mem_append] at hx
      rcases hx with hx | hx
      · exact hf.2.1 x hx
      · exact has x hx
    | _ => cases hq
  | _ => cases hq

theorem callFunc_enter {P : Program} {E : Env0} (hE : EnvOk P E) {f : FuncId} {F : Func} (hF : P.funcs[f]? = some F) (hb : F.body.isSome = true) (args : Array Value) (w : World) : (callFunc f args).run P w = .ok (.enter f args) w := by
  have hn := hE.nums f F hF hb
  have hb' : F.body.isNone = false := by cases hx : F.body with
    | none => rw [hx] at hb; cases hb
    | some c => rfl
  have hn' : F.name ≠ "runtime.NumGoroutine" := by simpa using hn
  have hb2 : F.body ≠ none := by intro h; rw [h] at hb; cases hb
  simp [callFunc, program, hF, hn', hb2, Sem.run_bind, Sem.run]

end one
end Go.Proofs.YtbcnedhhebjhdaaGreatDoor.Fa

/-
  One operation of a region, against the machine: each kind.
-/
namespace Go.Proofs.YtbcnedhhebjhdaaGreatDoor.Fa
section one
variable {R R' : Nat → Prop} {F : Act → Prop} {P : Program} {E : Env0} {nt mask : Nat} {b : Frame} {cs : List Frame} {ε : Env} {lc : Lc} {fr : Tr AV} {st : St} {a : Act} {w : World} {k : List Item} {ops : Array Oper} {i : Nat} {rest : List Nat} {o : Oper}

theorem orr_some {α : Type} {x : Option α} {f : α → RO} {Φ : RO → Prop} (h0 : Φ .fail) (h : ∀ v, x = some v → Φ (f v)) : Φ (orr x f) := by
  cases x with
  | none => exact h0
  | some v => exact h v rfl

/-- A call's operands: what is called. -/
theorem cCall_inv {f : Operand} {as : List Operand} {c : ACall} (h : cCallOf (cOpd f) (as.map cOpd) lc fr = some c) : ∃ fv vs, gt (cOpd f) lc fr = some fv ∧ gts (as.map cOpd) lc fr = some vs ∧ asCall vs fv = some c := by
  have h' : ob (gt (cOpd f) lc fr) (fun fv => ob (gts (as.map cOpd) lc fr) fun as => asCall as fv) = some c := h
  rw [ob_eq_some] at h'
  obtain ⟨fv, h1, h'⟩ := h'
  rw [ob_eq_some] at h'
  obtain ⟨vs, h2, h3⟩ := h'
  exact ⟨fv, vs, h1, h2, h3⟩

theorem rCall_value {cl : Call} {f : Operand} (hc : cl.callee = .value f) : rCall cl = r1 f (rs cl.args.toList []) := by unfold rCall; rw [hc]

theorem semAt_of (ro : Option Nat) (ρ : Operand → Value) (o : Oper) (h : ∀ c, o.op = .defer c → ro = none) : o.semAt ro ρ = execOp ρ o := by
  cases ro with
  | none => rfl
  | some l => exact Oper.semAt_eq _ _ _ fun c hc => by cases h c hc

theorem quiet_noDefer {q : QF} (h : cKind E o.op = .quiet q) (c : Call) : o.op ≠ .defer c := by
  intro ho
  rw [ho] at h
  have h' : cDeferK c = .quiet q := h
  unfold cDeferK cCallee at h'
  split at h' <;> cases h'
theorem loud_noDefer {q : LF} (h : cKind E o.op = .loud q) (c : Call) : o.op ≠ .defer c := by
  intro ho
  rw [ho] at h
  have h' : cDeferK c = .loud q := h
  unfold cDeferK cCallee at h'
  split at h' <;> cases h'

theorem guardReads_mem (dsts : List (Option Nat)) (o : Oper) (l : List Nat) (t : Nat) (h : t ∈ l) : t ∈ guardReads dsts o l := by
  unfold guardReads
  cases o.guard with
  | none => exact h
  | some g =>
    show t ∈ (Option.rec (motive := fun _ => List Nat) l (fun d => Option.rec (motive := fun _ => List Nat) l (fun d => d :: l) d) (lget dsts g.1) : List Nat)
    cases lget dsts g.1 with
    | none => exact h
    | some d => cases d with
      | none => exact h
      | some d => exact List.mem_cons_of_mem _ h
theorem guardReads_nil (dsts : List (Option Nat)) (o : Oper) (l : List Nat) (t : Nat) (h : t ∈ guardReads dsts o []) : t ∈ guardReads dsts o l := by
  unfold guardReads at h ⊢
  cases hg : o.guard with
  | none => rw [hg] at h; cases h
  | some g =>
    rw [hg] at h
    have h' : t ∈ (Option.rec (motive := fun _ => List Nat) [] (fun d => Option.rec (motive := fun _ => List Nat) [] (fun d => [d]) d) (lget dsts g.1) : List Nat) := h
    show t ∈ (Option.rec (motive := fun _ => List Nat) l (fun d => Option.rec (motive := fun _ => List Nat) l (fun d => d :: l) d) (lget dsts g.1) : List Nat)
    cases hx : lget dsts g.1 with
    | none => rw [hx] at h'; cases h'
    | some d =>
      rw [hx] at h'
      cases d with
      | none => cases h'
      | some d =>
        have h2 : t ∈ [d] := h'
        rw [List.mem_singleton] at h2
        subst h2
        exact List.mem_cons_self

/-- A quiet operation of a region. -/
theorem quietR {dsts : List (Option Nat)} (hi : InvR R P E nt mask b cs ε lc fr st a w) (hrd0 : ∀ t ∈ opReads o.op, R t) (hR : ∀ t, R' t → R t ∨ o.dst = some t) (hF : ∀ v ds, F (({ a with defers := ds } : Act).put o.dst v)) (ho : ops[i]? = some o) (hd : ∀ d, o.dst = some d → d < nt) (hw : Region.wanted o (yielded ops a.tmps) = true) {q : QF} (hq : cKind E o.op = .quiet q) :
    ROSoundR R R' F P E nt mask b cs fr k ops rest ε st w (lone (b.atR a (.inRegion ops (i :: rest) :: k)) (csAt ε st.um cs) w) (afterQ (cOp E dsts o).dst lc st (q lc fr st.heap st.next)) := by
  have hres := quiet_ok (hi.opAt (opReads o.op) hrd0) o (fun t ht => ht) hq
  have hsem := semAt_of b.roundOf a.eval o fun c hc => absurd hc (quiet_noDefer hq c)
  cases hqr : q lc fr st.heap st.next with
  | fail => trivial
  | val v =>
    rw [hqr] at hres
    obtain ⟨w', h1, h2, h3, h4⟩ := hres
    have ha := After.os_only hi.sim h2 h3
    refine ⟨ε, a.put o.dst (g ε v), w', (hi.after (st' := st) ha rfl rfl).put hd hR h4, hF _ a.defers, ha, .one (stepO_value ho hw (by rw [hsem]; exact h1))⟩
  | made v bl =>
    rw [hqr] at hres
    obtain ⟨w', ob, ε', h1, h2, h3, h4, h5, h6, h7⟩ := hres
    have hp : Plus (Dn st.next) st.next = Dn (st.next + 1) := by
      funext j
      apply propext
      unfold Plus Dn
      omega
    rw [hp] at h6 h7
    have ha : After ε st.heap st.next w ε' (newBlk st bl).heap (newBlk st bl).next w' := After.alloc hi.sim h4 h5 h7 h2 h3
    refine ⟨ε', a.put o.dst (g ε' v), w', (hi.after (st' := newBlk st bl) ha rfl rfl).put hd hR h6, hF _ a.defers, ha, ?_⟩
    rw [show csAt ε' (newBlk st bl).um cs = csAt ε st.um cs from csAt_agree hi.um h4]
    exact .one (stepO_value ho hw (by rw [hsem]; exact h1))
  | resv v =>
    rw [hqr] at hres
    obtain ⟨w', ε', h1, h2, h3, h4, h6⟩ := hres
    have hp : Plus (Dn st.next) st.next = Dn (st.next + 1) := by
      funext j
      apply propext
      unfold Plus Dn
      omega
    rw [hp] at h6
    have ha : After ε st.heap st.next w ε' st.heap (Nat.succ st.next) w' := After.taken hi.sim h4 h2 h3
    refine ⟨ε', a.put o.dst (g ε' v), w', (hi.after (st' := { heap := st.heap, next := Nat.succ st.next, um := st.um, defers := st.defers }) ha rfl rfl).put hd hR h6, hF _ a.defers, ha, ?_⟩
    rw [show csAt ε' st.um cs = csAt ε st.um cs from csAt_agree hi.um h4]
    exact .one (stepO_value ho hw (by rw [hsem]; exact h1))

/-- A loud operation that is no call. -/
theorem loudR {dsts : List (Option Nat)} (hi : InvR R P E nt mask b cs ε lc fr st a w) (hrd0 : ∀ t ∈ opReads o.op, R t) (hR : ∀ t, R' t → R t ∨ o.dst = some t) (hF : ∀ v ds, F (({ a with defers := ds } : Act).put o.dst v)) (ho : ops[i]? = some o) (hd : ∀ d, o.dst = some d → d < nt) (hw : Region.wanted o (yielded ops a.tmps) = true) {f : LF} (hq : cKind E o.op = .loud f) :
    ROSoundR R R' F P E nt mask b cs fr k ops rest ε st w (lone (b.atR a (.inRegion ops (i :: rest) :: k)) (csAt ε st.um cs) w) (orr (f lc fr st) fun r => .on (putLc (cOp E dsts o).dst r.1 lc) r.2) := by
  refine orr_some (Φ := ROSoundR R R' F P E nt mask b cs fr k ops rest ε st w _) trivial fun r hr => ?_
  obtain ⟨ε', w', nx, h1, h2, h3, h4, h5, h6⟩ := loud_ok (hi.opAt (opReads o.op) hrd0) o (fun t ht => ht) hq hr
  have hsem := semAt_of b.roundOf a.eval o fun c hc => absurd hc (loud_noDefer hq c)
  refine ⟨ε', a.put o.dst (g ε' r.1), w', (hi.after (st' := r.2) h4 h5 h6).put hd hR h3, hF _ a.defers, h4, ?_⟩
  rw [h5, csAt_agree hi.um h4.agree]
  rcases h2 with h2 | ⟨h2, h7⟩
  · subst h2
    exact .one (stepO_value ho hw (by rw [hsem]; exact h1))
  · subst h2
    rw [h7, g_undef]
    exact .one (stepO_skip ho hw (by rw [hsem]; exact h1))

/-- A call. -/
theorem callR {dsts : List (Option Nat)} {call : CallF} (hcs : CallSound P call) (hi : InvR R P E nt mask b cs ε lc fr st a w) (hrd0 : ∀ t ∈ opReads o.op, R t) (hR : ∀ t, R' t → R t ∨ o.dst = some t) (hF : ∀ v ds, F (({ a with defers := ds } : Act).put o.dst v)) (ho : ops[i]? = some o) (hd : ∀ d, o.dst = some d → d < nt) (hw : Region.wanted o (yielded ops a.tmps) = true)
    {cl : Call} {f : Operand} (hop : o.op = .call cl) (hc : cl.callee = .value f) :
    ROSoundR R R' F P E nt mask b cs fr k ops rest ε st w (lone (b.atR a (.inRegion ops (i :: rest) :: k)) (csAt ε st.um cs) w)
      (orr (cCallOf (cOpd f) (cl.args.toList.map cOpd) lc fr) fun c => orr (call c (bare st)) fun r => afterC (cOp E dsts o).dst lc st r) := by
  refine orr_some (Φ := ROSoundR R R' F P E nt mask b cs fr k ops rest ε st w _) trivial fun c hcc => ?_
  refine orr_some (Φ := ROSoundR R R' F P E nt mask b cs fr k ops rest ε st w _) trivial fun r hr => ?_
  obtain ⟨fv, vs, hfv, hvs, has⟩ := cCall_inv hcc
  have hat := hi.opAt (rCall cl) (by rw [hop] at hrd0; exact hrd0)
  have hrc := rCall_value hc
  obtain ⟨h1, h2⟩ := hat.gt hfv fun t ht => by rw [hrc]; exact (mem_r1 f _).1 t ht
  obtain ⟨h3, h4⟩ := gts_ok hat cl.args.toList vs hvs fun x hx u hu => by rw [hrc]; exact (mem_r1 f _).2 u ((mem_rs _ _).1 x hx u hu)
  have hok := asCall_ok h2 h4 has
  obtain ⟨fr0, hbeg, hres⟩ := hcs c (bare st) r hr rfl rfl ε w hi.glob hi.sim hok
  obtain ⟨ε', w', hafter, hmatch⟩ := hres (b.atR a (.inRegion ops (i :: rest) :: k)) (csAt ε st.um cs)
  have hafter : After ε st.heap st.next w ε' (back st r.2).heap (back st r.2).next w' := hafter
  have hsem := semAt_of b.roundOf a.eval o fun c hc => by rw [hop] at hc; cases hc
  have hfirst : step P (lone (b.atR a (.inRegion ops (i :: rest) :: k)) (csAt ε st.um cs) w) = .next (lone fr0 (b.atR a (.inRegion ops (i :: rest) :: k) :: csAt ε st.um cs) w) := by
    rcases run_call P a.eval o hop hc h1 h3 has w with ⟨n, xs, hcn, hrun⟩ | ⟨l, xs, hcn, hrun⟩
    · subst hcn
      obtain ⟨hfr0, F, hF, hb⟩ := hbeg
      subst hfr0
      exact stepO_enter ho hw (by rw [hsem, hrun]; exact callFunc_enter hi.env hF hb _ _)
    · subst hcn
      obtain ⟨n, tmps, x, y, hy, hfr0⟩ := hbeg
      subst hfr0
      exact stepO_round ho hw (by rw [hsem, hrun]; exact hy)
  have hcs' : csAt ε' st.um cs = csAt ε st.um cs := csAt_agree hi.um hafter.agree
  have hinv := hi.after (st' := back st r.2) hafter rfl rfl
  obtain ⟨e, st'⟩ := r
  cases e with
  | returned v =>
    obtain ⟨hv, hst⟩ := hmatch
    refine ⟨ε', a.put o.dst (g ε' v), w', hinv.put hd hR hv, hF _ a.defers, hafter, .head hfirst ?_⟩
    rw [finR ho] at hst
    show Steps P _ (lone _ (csAt ε' st.um cs) w')
    rw [hcs']
    exact hst
  | panicked ch =>
    obtain ⟨hch, hst⟩ := hmatch
    rw [Frame.raise_atR] at hst
    refine ⟨ε', a, w', .inRegion ops (i :: rest) :: k, hinv, hafter, hch, .head hfirst ?_⟩
    show Steps P _ (lone _ (csAt ε' st.um cs) w')
    rw [hcs']
    exact hst

/-- A deferred call. -/
theorem deferR {dsts : List (Option Nat)} (hi : InvR R P E nt mask b cs ε lc fr st a w) (hrd0 : ∀ t ∈ opReads o.op, R t) (hR : ∀ t, R' t → R t ∨ o.dst = some t) (hF : ∀ v ds, F (({ a with defers := ds } : Act).put o.dst v)) (ho : ops[i]? = some o) (hd : ∀ d, o.dst = some d → d < nt) (hw : Region.wanted o (yielded ops a.tmps) = true)
    {cl : Call} {f : Operand} (hop : o.op = .defer cl) (hc : cl.callee = .value f) (hb : b.roundOf = none) :
    ROSoundR R R' F P E nt mask b cs fr k ops rest ε st w (lone (b.atR a (.inRegion ops (i :: rest) :: k)) (csAt ε st.um cs) w)
      (orr (cCallOf (cOpd f) (cl.args.toList.map cOpd) lc fr) fun c => afterD (cOp E dsts o).dst lc st c) := by
  refine orr_some (Φ := ROSoundR R R' F P E nt mask b cs fr k ops rest ε st w _) trivial fun c hcc => ?_
  obtain ⟨fv, vs, hfv, hvs, has⟩ := cCall_inv hcc
  have hat := hi.opAt (rCall cl) (by rw [hop] at hrd0; exact hrd0)
  have hrc := rCall_value hc
  obtain ⟨h1, h2⟩ := hat.gt hfv fun t ht => by rw [hrc]; exact (mem_r1 f _).1 t ht
  obtain ⟨h3, h4⟩ := gts_ok hat cl.args.toList vs hvs fun x hx u hu => by rw [hrc]; exact (mem_r1 f _).2 u ((mem_rs _ _).1 x hx u hu)
  have hok := asCall_ok h2 h4 has
  have hargs : cl.args.map a.eval = (vs.map (g ε)).toArray := by apply Array.ext'; simp [h3]
  unfold asCall at has
  cases fv with
  | fn fn first cap =>
    cases fn with
    | func n =>
      have hq' : some (ACall.func n (lapp first (lapp vs cap))) = some c := has
      injection hq' with hq'
      subst hq'
      have hrun : (execOp a.eval o).run P w = .ok (.defer { target := .fn (.func n) (cap.map (g ε)).toArray, args := (first.map (g ε)).toArray ++ (vs.map (g ε)).toArray }) w := by
        simp only [execOp, hop, resolve, hc, h1, hargs, Deferred.ofValue, g, gFn]
        rfl
      refine ⟨ε, ({ a with defers := { target := .fn (.func n) (cap.map (g ε)).toArray, args := (first.map (g ε)).toArray ++ (vs.map (g ε)).toArray } :: a.defers } : Act).put o.dst undef, w, ?_, hF _ _, After.refl hi.sim, .one (stepO_defer ho hw (by rw [hb]; exact hrun))⟩
      have hi2 : InvR R P E nt mask b cs ε lc fr (pushDef st (.call n (lapp first (lapp vs cap)))) { a with defers := { target := .fn (.func n) (cap.map (g ε)).toArray, args := (first.map (g ε)).toArray ++ (vs.map (g ε)).toArray } :: a.defers } w :=
        ⟨hi.env, hi.glob, hi.sim, hi.reads, hi.size, hi.dom, ⟨_, _, rfl, ⟨⟨_, _, rfl, by apply Array.ext'; simp⟩, hok⟩, hi.defs⟩, hi.um⟩
      exact hi2.putUndef hd hR
    | yield l =>
      have hq' : some (ACall.yield l (lapp first vs)) = some c := has
      injection hq' with hq'
      subst hq'
      trivial
    | _ => cases has
  | _ => cases has

/-- A panic. -/
theorem panicR (hi : InvR R P E nt mask b cs ε lc fr st a w) (hrd0 : ∀ t ∈ opReads o.op, R t) (ho : ops[i]? = some o) (hw : Region.wanted o (yielded ops a.tmps) = true) {x : Operand} (hop : o.op = .panic x) :
    ROSoundR R R' F P E nt mask b cs fr k ops rest ε st w (lone (b.atR a (.inRegion ops (i :: rest) :: k)) (csAt ε st.um cs) w)
      (orr (gt (cOpd x) lc fr) fun v => bi (isIface v) (.panic [{ v := v, recovered := false }] lc st) .fail) := by
  refine orr_some (Φ := ROSoundR R R' F P E nt mask b cs fr k ops rest ε st w _) trivial fun v hv => ?_
  refine bi_elim (Φ := ROSoundR R R' F P E nt mask b cs fr k ops rest ε st w _) (fun hif => ?_) fun _ => trivial
  obtain ⟨h1, h2⟩ := (hi.opAt (opReads o.op) hrd0).gt hv fun t ht => by rw [hop, ht]; exact List.mem_cons_self
  have hsem := semAt_of b.roundOf a.eval o fun c hc => by rw [hop] at hc; cases hc
  cases v with
  | iface t u =>
    refine ⟨ε, a, w, _, hi, After.refl hi.sim, fun p hp => ?_, .one (stepO_panic ho hw ?_)⟩
    · rw [List.mem_singleton] at hp
      subst hp
      exact h2
    · rw [hsem]
      simp only [execOp, hop, h1, g, Instr.panic, goPanic]
      rfl
  | _ => cases hif

/-- A recovery. -/
theorem recoverR {dsts : List (Option Nat)} (hi : InvR R P E nt mask b cs ε lc fr st a w) (hR : ∀ t, R' t → R t ∨ o.dst = some t) (hF : ∀ v ds, F (({ a with defers := ds } : Act).put o.dst v)) (ho : ops[i]? = some o) (hd : ∀ d, o.dst = some d → d < nt) (hw : Region.wanted o (yielded ops a.tmps) = true)
    {cl : Call} (hop : o.op = .call cl) (hc : cl.callee = .builtin .recover) (hb : b.roundOf = none) :
    ROSoundR R R' F P E nt mask b cs fr k ops rest ε st w (lone (b.atR a (.inRegion ops (i :: rest) :: k)) (csAt ε st.um cs) w)
      (orr (lRecover lc fr st) fun r => .on (putLc (cOp E dsts o).dst r.1 lc) r.2) := by
  have hrun : (o.semAt b.roundOf a.eval).run P w = .ok .recover w := by
    rw [hb]
    show (execOp a.eval o).run P w = _
    rw [run_builtin P w a.eval o cl .recover hop hc]
    rfl
  have hnil : ∀ D, okv D ε .nilIface := fun D => by simp [okv]
  have hgn : g ε .nilIface = .nilIface := by simp [g]
  have hnone : tryRecover (b.atR a (.inRegion ops (i :: rest) :: k)) (csAt ε st.um cs) = none →
      ROSoundR R R' F P E nt mask b cs fr k ops rest ε st w (lone (b.atR a (.inRegion ops (i :: rest) :: k)) (csAt ε st.um cs) w) (.on (putLc (cOp E dsts o).dst .nilIface lc) st) := fun ht =>
    ⟨ε, a.put o.dst (g ε .nilIface), w, hi.put hd hR (hnil _), hF _ a.defers, After.refl hi.sim, by rw [hgn]; exact .one (stepO_recover_none ho hw hb hrun ht)⟩
  have hum := hi.um
  unfold lRecover
  cases hu : st.um with
  | none =>
    rw [hu] at hnone hum
    refine hnone ?_
    rcases hum with hum | ⟨hum, c, rest', hcs, hm⟩
    · show tryRecover (b.atR a (.inRegion ops (i :: rest) :: k)) _ = none
      unfold tryRecover
      simp [Frame.atR, hum]
    · subst hcs
      show tryRecover (b.atR a (.inRegion ops (i :: rest) :: k)) (c :: rest') = none
      unfold tryRecover
      simp [Frame.atR, hum, hm]
  | some ch =>
    rw [hu] at hnone hum
    obtain ⟨hk, hne, hch⟩ := hum
    cases cs with
    | nil => exact absurd rfl hne
    | cons c cs =>
      cases ch with
      | nil =>
        refine hnone ?_
        show tryRecover (b.atR a (.inRegion ops (i :: rest) :: k)) _ = none
        unfold tryRecover
        simp [Frame.atR, hk, csAt]
      | cons p l =>
        obtain ⟨v, rec⟩ := p
        cases rec with
        | true =>
          refine hnone ?_
          show tryRecover (b.atR a (.inRegion ops (i :: rest) :: k)) _ = none
          unfold tryRecover
          simp [Frame.atR, hk, csAt, gPan]
        | false =>
          have hv : okv (Dn st.next) ε v := hch _ List.mem_cons_self
          have hi2 : InvR R P E nt mask b (c :: cs) ε lc fr { heap := st.heap, next := st.next, um := some ({ v := v, recovered := true } :: l), defers := st.defers } a w := by
            refine ⟨hi.env, hi.glob, hi.sim, hi.reads, hi.size, hi.dom, hi.defs, ⟨hk, hne, fun p hp => ?_⟩⟩
            rcases List.mem_cons.1 hp with hp | hp
            · subst hp; exact hv
            · exact hch p (List.mem_cons_of_mem _ hp)
          refine ⟨ε, a.put o.dst (g ε v), w, hi2.put hd hR hv, hF _ a.defers, After.refl hi.sim, .one (stepO_recover_some ho hw hb hrun ?_)⟩
          show tryRecover (b.atR a (.inRegion ops (i :: rest) :: k)) _ = _
          unfold tryRecover
          simp [Frame.atR, hk, csAt, gPan]

/-- Any operation that is to be done. -/
theorem kindR {dsts : List (Option Nat)} {rx : Rx} (hcs : CallSound P rx.call) (hrd : rx.rd = b.roundOf.isSome) (hi : InvR R P E nt mask b cs ε lc fr st a w) (hrd0 : ∀ t ∈ opReads o.op, R t) (hR : ∀ t, R' t → R t ∨ o.dst = some t) (hF : ∀ v ds, F (({ a with defers := ds } : Act).put o.dst v)) (ho : ops[i]? = some o) (hd : ∀ d, o.dst = some d → d < nt) (hw : Region.wanted o (yielded ops a.tmps) = true) :
    ROSoundR R R' F P E nt mask b cs fr k ops rest ε st w (lone (b.atR a (.inRegion ops (i :: rest) :: k)) (csAt ε st.um cs) w) (xKind rx (cOp E dsts o).dst fr lc st (cKind E o.op)) := by
  have hround : rx.rd = false → b.roundOf = none := fun h => by
    rw [hrd] at h
    cases hb : b.roundOf with
    | none => rfl
    | some l => rw [hb] at h; cases h
  cases hck : cKind E o.op with
  | bad => trivial
  | quiet q => exact quietR (dsts := dsts) hi hrd0 hR hF ho hd hw hck
  | loud f => exact loudR (dsts := dsts) hi hrd0 hR hF ho hd hw hck
  | same u =>
    rcases other_inv (E := E) (op := o.op) (by rw [hck]; rfl) with ⟨x, hx, h2⟩ | ⟨cl, f, h1, h2, h3⟩ | ⟨cl, f, h1, h2, h3⟩ | ⟨x, h1, h3⟩ | ⟨cl, h1, h2, h3⟩
    · rw [hck] at h2
      cases x with
      | tmp t =>
        injection h2 with h2
        subst h2
        have hu0 : R u := hrd0 u (by rcases hx with hx | hx <;> rw [hx] <;> exact List.mem_cons_self)
        have hrun : (o.semAt b.roundOf a.eval).run P w = .ok (.value (a.tmps.getD u undef)) w := by
          rw [semAt_of b.roundOf a.eval o fun c hc => by rcases hx with hx | hx <;> rw [hx] at hc <;> cases hc]
          rcases hx with hx | hx <;> simp only [execOp, hx] <;> rfl
        exact ⟨ε, _, w, hi.same hd hR u hu0, hF _ a.defers, After.refl hi.sim, .one (stepO_value ho hw hrun)⟩
      | _ => cases h2
    all_goals (rw [hck] at h3; cases h3)
  | call c =>
    rcases other_inv (E := E) (op := o.op) (by rw [hck]; rfl) with ⟨x, hx, h2⟩ | ⟨cl, f, h1, h2, h3⟩ | ⟨cl, f, h1, h2, h3⟩ | ⟨x, h1, h3⟩ | ⟨cl, h1, h2, h3⟩
    · rw [hck] at h2; cases x <;> cases h2
    · rw [hck] at h3
      injection h3 with h3
      subst h3
      exact callR (dsts := dsts) hcs hi hrd0 hR hF ho hd hw h1 h2
    all_goals (rw [hck] at h3; cases h3)
  | defer c =>
    rcases other_inv (E := E) (op := o.op) (by rw [hck]; rfl) with ⟨x, hx, h2⟩ | ⟨cl, f, h1, h2, h3⟩ | ⟨cl, f, h1, h2, h3⟩ | ⟨x, h1, h3⟩ | ⟨cl, h1, h2, h3⟩
    · rw [hck] at h2; cases x <;> cases h2
    · rw [hck] at h3; cases h3
    · rw [hck] at h3
      injection h3 with h3
      subst h3
      refine bi_elim (Φ := ROSoundR R R' F P E nt mask b cs fr k ops rest ε st w _) (fun _ => trivial) fun hr => ?_
      exact deferR (dsts := dsts) hi hrd0 hR hF ho hd hw h1 h2 (hround hr)
    all_goals (rw [hck] at h3; cases h3)
  | panic x =>
    rcases other_inv (E := E) (op := o.op) (by rw [hck]; rfl) with ⟨x, hx, h2⟩ | ⟨cl, f, h1, h2, h3⟩ | ⟨cl, f, h1, h2, h3⟩ | ⟨x, h1, h3⟩ | ⟨cl, h1, h2, h3⟩
    · rw [hck] at h2; cases x <;> cases h2
    · rw [hck] at h3; cases h3
    · rw [hck] at h3; cases h3
    · rw [hck] at h3
      injection h3 with h3
      subst h3
      exact panicR hi hrd0 ho hw h1
    · rw [hck] at h3; cases h3
  | recover =>
    rcases other_inv (E := E) (op := o.op) (by rw [hck]; rfl) with ⟨x, hx, h2⟩ | ⟨cl, f, h1, h2, h3⟩ | ⟨cl, f, h1, h2, h3⟩ | ⟨x, h1, h3⟩ | ⟨cl, h1, h2, h3⟩
    · rw [hck] at h2; cases x <;> cases h2
    · rw [hck] at h3; cases h3
    · rw [hck] at h3; cases h3
    · rw [hck] at h3; cases h3
    · refine bi_elim (Φ := ROSoundR R R' F P E nt mask b cs fr k ops rest ε st w _) (fun _ => trivial) fun hr => ?_
      exact recoverR (dsts := dsts) hi hR hF ho hd hw h1 h2 (hround hr)

/-- An operation. -/
theorem opR {rx : Rx} (hcs : CallSound P rx.call) (hrd : rx.rd = b.roundOf.isSome) (hi : InvR R P E nt mask b cs ε lc fr st a w) (hg : ∀ t ∈ readsOf (dstsOf ops.toList) o, R t) (hR : ∀ t, R' t → R t ∨ o.dst = some t) (hF : ∀ v ds, F (({ a with defers := ds } : Act).put o.dst v)) (ho : ops[i]? = some o) (hd : ∀ d, o.dst = some d → d < nt) :
    ROSoundR R R' F P E nt mask b cs fr k ops rest ε st w (lone (b.atR a (.inRegion ops (i :: rest) :: k)) (csAt ε st.um cs) w) (xOp rx fr (cOp E (dstsOf ops.toList) o) lc st) := by
  refine orr_some (Φ := ROSoundR R R' F P E nt mask b cs fr k ops rest ε st w _) trivial fun wb hwb => ?_
  have hw := wanted_ok (a := a) (ε := ε) (fun t ht v hv => (hi.reads t (hg t (guardReads_nil _ _ _ _ ht)) v hv).1) hwb
  refine bi_elim (Φ := ROSoundR R R' F P E nt mask b cs fr k ops rest ε st w _) (fun hb => ?_) fun hb => ?_
  · subst hb
    exact kindR hcs hrd hi (fun t ht => hg t (guardReads_mem _ _ _ _ ht)) hR hF ho hd hw
  · subst hb
    exact ⟨ε, a.put o.dst undef, w, hi.putUndef hd hR, hF _ a.defers, After.refl hi.sim, .one (stepO_unwanted ho hw)⟩

end one
end Go.Proofs.YtbcnedhhebjhdaaGreatDoor.Fa

/-
  Regions in the text's order, against the machine.
-/
namespace Go.Proofs.YtbcnedhhebjhdaaGreatDoor.Fa
section plain
variable {P : Program} {E : Env0} {nt mask : Nat} {b : Frame} {cs : List Frame} {ε : Env} {lc : Lc} {fr : Tr AV} {st : St} {a : Act} {w : World} {k : List Item} {ops : Array Oper}

theorem thenR_on (lc : Lc) (st : St) (k : Lc → St → RO) : thenR (.on lc st) k = k lc st := rfl
theorem thenR_panic (ch : List APan) (lc : Lc) (st : St) (k : Lc → St → RO) : thenR (.panic ch lc st) k = .panic ch lc st := rfl
theorem thenR_fail (k : Lc → St → RO) : thenR .fail k = .fail := rfl

theorem ROSound.on_trans {ε' : Env} {st' : St} {w' : World} {m m' : Machine} {rest : List Nat} {r : RO} (ha : After ε st.heap st.next w ε' st'.heap st'.next w') (hs : Steps P m m') (h : ROSound P E nt mask b cs fr k ops rest ε' st' w' m' r) : ROSound P E nt mask b cs fr k ops rest ε st w m r := by
  cases r with
  | fail => trivial
  | on lc st2 =>
    obtain ⟨ε2, a2, w2, h1, hF, h2, h3⟩ := h
    exact ⟨ε2, a2, w2, h1, hF, ha.trans h2, hs.trans h3⟩
  | panic ch lc st2 =>
    obtain ⟨ε2, a2, w2, todo, h1, h2, h3, h4⟩ := h
    exact ⟨ε2, a2, w2, todo, h1, ha.trans h2, h3, hs.trans h4⟩

/-- Behind a stretch another one. -/
theorem ROSound.then {m : Machine} {rest rest' : List Nat} {r : RO} {f : Lc → St → RO} (h : ROSound P E nt mask b cs fr k ops rest ε st w m r)
    (hf : ∀ lc' st', r = .on lc' st' → ∀ ε' a' w', Inv P E nt mask b cs ε' lc' fr st' a' w' → ROSound P E nt mask b cs fr k ops rest' ε' st' w' (lone (b.atR a' (.inRegion ops rest :: k)) (csAt ε' st'.um cs) w') (f lc' st')) :
    ROSound P E nt mask b cs fr k ops rest' ε st w m (thenR r f) := by
  cases r with
  | fail => trivial
  | on lc' st' =>
    obtain ⟨ε', a', w', h1, _, h2, h3⟩ := h
    exact (hf lc' st' rfl ε' a' w' h1).on_trans h2 h3
  | panic ch lc' st' => exact h

theorem opsR {rx : Rx} (hcs : CallSound P rx.call) (hrd : rx.rd = b.roundOf.isSome) : ∀ (l : List Oper) (is : List Nat), is.map (fun i => ops[i]?) = l.map some → (∀ o ∈ l, ∀ d, o.dst = some d → d < nt) → ∀ ε lc st a w, Inv P E nt mask b cs ε lc fr st a w →
    ROSound P E nt mask b cs fr k ops [] ε st w (lone (b.atR a (.inRegion ops is :: k)) (csAt ε st.um cs) w) (xOps E (dstsOf ops.toList) rx fr l lc st)
  | [], is, hl, _, ε, lc, st, a, w, hi => by
    have : is = [] := by cases is with
      | nil => rfl
      | cons i is => cases hl
    subst this
    exact ⟨ε, a, w, hi, trivial, After.refl hi.sim, .refl _ _⟩
  | o :: l, is, hl, hd, ε, lc, st, a, w, hi => by
    cases is with
    | nil => cases hl
    | cons i is =>
      simp only [List.map_cons, List.cons.injEq] at hl
      show ROSoundR _ _ _ _ _ _ _ _ _ _ _ _ _ _ _ _ _ (thenR (xOp rx fr (cOp E (dstsOf ops.toList) o) lc st) (xOps E (dstsOf ops.toList) rx fr l))
      refine ROSound.then (opR (R := fun _ => True) (R' := fun _ => True) (F := fun _ => True) (rest := is) hcs hrd hi (fun _ _ => trivial) (fun _ _ => .inl trivial) (fun _ _ => trivial) hl.1 (hd o List.mem_cons_self)) fun lc' st' _ ε' a' w' hi' => ?_
      exact opsR hcs hrd l is hl.2 (fun p hp => hd p (List.mem_cons_of_mem _ hp)) ε' lc' st' a' w' hi'

/-! ### What a region lays -/
def LcIn (S : Nat → Prop) : Lc → Prop
  | .nil => True
  | .cons t _ l => S t ∧ LcIn S l
  | .alias t _ l => S t ∧ LcIn S l

theorem LcIn.get {S : Nat → Prop} : ∀ {lc : Lc}, LcIn S lc → ∀ {t : Nat}, ¬ S t → lc.get fr t = fr.find t
  | .nil, _, _, _ => rfl
  | .cons u v l, h, t, ht => by
    have hne : ¬ u = t := fun he => ht (he ▸ h.1)
    rw [Lc.get_cons, if_neg hne]
    exact h.2.get ht
  | .alias u v l, h, t, ht => by
    have hne : ¬ u = t := fun he => ht (he ▸ h.1)
    rw [Lc.get_alias, if_neg hne]
    exact h.2.get ht

theorem LcIn.put {S : Nat → Prop} {lc : Lc} (h : LcIn S lc) {dst : Option Nat} (hd : ∀ d, dst = some d → S d) (v : AV) : LcIn S (putLc dst v lc) := by
  cases dst with
  | none => exact h
  | some d => exact ⟨hd d rfl, h⟩
theorem LcIn.putAs {S : Nat → Prop} {lc : Lc} (h : LcIn S lc) {dst : Option Nat} (hd : ∀ d, dst = some d → S d) (u : Nat) : LcIn S (putAs dst u lc) := by
  cases dst with
  | none => exact h
  | some d => exact ⟨hd d rfl, h⟩

def ROIn (S : Nat → Prop) : RO → Prop
  | .fail => True
  | .on lc _ => LcIn S lc
  | .panic _ lc _ => LcIn S lc

theorem afterQ_in {S : Nat → Prop} (h : LcIn S lc) {dst : Option Nat} (hd : ∀ d, dst = some d → S d) (q : QR) : ROIn S (afterQ dst lc st q) := by
  cases q with
  | fail => trivial
  | val v => exact h.put hd v
  | made v bl => exact h.put hd v
  | resv v => exact h.put hd v

theorem xKind_in {S : Nat → Prop} (h : LcIn S lc) {dst : Option Nat} (hd : ∀ d, dst = some d → S d) (rx : Rx) (kk : CKind) : ROIn S (xKind rx dst fr lc st kk) := by
  cases kk with
  | bad => trivial
  | same u => exact h.putAs hd u
  | quiet q => exact afterQ_in h hd _
  | loud l => exact orr_some (Φ := ROIn S) trivial fun r _ => h.put hd r.1
  | call c =>
    refine orr_some (Φ := ROIn S) trivial fun c _ => orr_some (Φ := ROIn S) trivial fun r _ => ?_
    obtain ⟨e, st'⟩ := r
    cases e with
    | returned v => exact h.put hd v
    | panicked ch => exact h
  | defer c =>
    refine bi_elim (Φ := ROIn S) (fun _ => trivial) fun _ => orr_some (Φ := ROIn S) trivial fun c _ => ?_
    cases c with
    | func f as => exact h.put hd _
    | yield l as => trivial
  | panic x => exact orr_some (Φ := ROIn S) trivial fun v _ => bi_elim (Φ := ROIn S) (fun _ => h) fun _ => trivial
  | recover => exact bi_elim (Φ := ROIn S) (fun _ => trivial) fun _ => orr_some (Φ := ROIn S) trivial fun r _ => h.put hd r.1

theorem xOp_in {S : Nat → Prop} (h : LcIn S lc) {c : COp} (hd : ∀ d, c.dst = some d → S d) (rx : Rx) : ROIn S (xOp rx fr c lc st) :=
  orr_some (Φ := ROIn S) trivial fun _ _ => bi_elim (Φ := ROIn S) (fun _ => xKind_in h hd rx _) fun _ => h.put hd _

theorem ROIn.then {S : Nat → Prop} {r : RO} {f : Lc → St → RO} (h : ROIn S r) (hf : ∀ lc' st', LcIn S lc' → ROIn S (f lc' st')) : ROIn S (thenR r f) := by
  cases r with
  | fail => trivial
  | on lc' st' => exact hf lc' st' h
  | panic ch lc' st' => exact h

theorem xOps_in {S : Nat → Prop} {dsts : List (Option Nat)} (rx : Rx) : ∀ (l : List Oper), (∀ o ∈ l, ∀ d, o.dst = some d → S d) → ∀ lc st, LcIn S lc → ROIn S (xOps E dsts rx fr l lc st)
  | [], _, _, _, h => h
  | o :: l, hd, lc, st, h => by
    show ROIn S (thenR (xOp rx fr (cOp E dsts o) lc st) (xOps E dsts rx fr l))
    exact (xOp_in h (c := cOp E dsts o) (hd o List.mem_cons_self) rx).then fun lc' st' h' => xOps_in rx l (fun p hp => hd p (List.mem_cons_of_mem _ hp)) lc' st' h'

/-! ### The same, made ready -/
theorem kOp_eq {dsts : List (Option Nat)} (o : Oper) (kb : Box) (rx : Rx) (lc : Lc) (st : St) : unbox (kOp (cOp E dsts o) kb) rx fr lc st = thenR (xOp rx fr (cOp E dsts o) lc st) (unbox kb rx fr) := by
  unfold kOp
  cases hg : (cOp E dsts o).guard with
  | some g => rfl
  | none =>
    have hw : wanted (cOp E dsts o) lc fr = some true := by unfold wanted; rw [hg]
    have hx : xOp rx fr (cOp E dsts o) lc st = xKind rx (cOp E dsts o).dst fr lc st (cOp E dsts o).kind := by
      unfold xOp
      rw [hw]
      rfl
    rw [hx]
    obtain ⟨kf⟩ := kb
    cases hk : (cOp E dsts o).kind with
    | bad => show thenR (xOp rx fr (cOp E dsts o) lc st) (kf rx fr) = _; rw [hx, hk]; rfl
    | same u =>
      cases hd : (cOp E dsts o).dst with
      | none =>
        show unbox (kKind (cOp E dsts o) (.mk kf) (.same u)) rx fr lc st = _
        unfold kKind
        rw [hd]
        rfl
      | some d =>
        show unbox (kKind (cOp E dsts o) (.mk kf) (.same u)) rx fr lc st = _
        unfold kKind
        rw [hd]
        rfl
    | quiet q =>
      show kAfterQ (cOp E dsts o).dst (.mk kf) rx fr lc st (q lc fr st.heap st.next) = thenR (afterQ (cOp E dsts o).dst lc st (q lc fr st.heap st.next)) _
      cases q lc fr st.heap st.next <;> rfl
    | loud l =>
      show orr (l lc fr st) (fun r => kPut (cOp E dsts o).dst (.mk kf) rx fr r.1 lc r.2) = thenR (orr (l lc fr st) fun r => .on (putLc (cOp E dsts o).dst r.1 lc) r.2) _
      cases l lc fr st <;> rfl
    | call c =>
      show orr (c lc fr) (fun c => orr (rx.call c (bare st)) (kAfterC (cOp E dsts o).dst (.mk kf) rx fr lc st)) = thenR (orr (c lc fr) fun c => orr (rx.call c (bare st)) fun r => afterC (cOp E dsts o).dst lc st r) _
      cases c lc fr with
      | none => rfl
      | some c =>
        show orr (rx.call c (bare st)) (kAfterC (cOp E dsts o).dst (.mk kf) rx fr lc st) = thenR (orr (rx.call c (bare st)) fun r => afterC (cOp E dsts o).dst lc st r) _
        cases rx.call c (bare st) with
        | none => rfl
        | some r =>
          obtain ⟨e, st'⟩ := r
          cases e <;> rfl
    | defer c => show thenR (xOp rx fr (cOp E dsts o) lc st) (kf rx fr) = _; rw [hx, hk]; rfl
    | panic x => show thenR (xOp rx fr (cOp E dsts o) lc st) (kf rx fr) = _; rw [hx, hk]; rfl
    | recover => show thenR (xOp rx fr (cOp E dsts o) lc st) (kf rx fr) = _; rw [hx, hk]; rfl

theorem cOps_eq {dsts : List (Option Nat)} (rx : Rx) : ∀ (l : List Oper) (lc : Lc) (st : St), unbox (cOps E dsts l) rx fr lc st = xOps E dsts rx fr l lc st
  | [], _, _ => rfl
  | o :: l, lc, st => by
    show unbox (kOp (cOp E dsts o) (cOps E dsts l)) rx fr lc st = thenR (xOp rx fr (cOp E dsts o) lc st) (xOps E dsts rx fr l)
    rw [kOp_eq]
    congr 1
    funext lc' st'
    exact cOps_eq rx l lc' st'

end plain
end Go.Proofs.YtbcnedhhebjhdaaGreatDoor.Fa

/-
  What code must come to; a region's end; a region in the text's order, as code.
-/
namespace Go.Proofs.YtbcnedhhebjhdaaGreatDoor.Fa
section code
variable {P : Program} {E : Env0} {nt mask : Nat} {b : Frame} {cs : List Frame} {ε : Env} {lc : Lc} {fr : Tr AV} {st : St} {a : Act} {w : World} {k : List Item} {ops : Array Oper}

/-- What a stretch of code, from m on, must come to; k lies behind it. -/
def COSound (P : Program) (E : Env0) (nt mask : Nat) (b : Frame) (cs : List Frame) (k : List Item) (ε : Env) (st : St) (w : World) (m : Machine) : CO → Prop
  | .fail => True
  | .normal fr' st' => ∃ ε' a' w', Inv P E nt mask b cs ε' .nil fr' st' a' w' ∧ After ε st.heap st.next w ε' st'.heap st'.next w' ∧ Steps P m (lone (b.atR a' k) (csAt ε' st'.um cs) w')
  | .exit id fr' st' => ∃ ε' a' w' kk, Inv P E nt mask b cs ε' .nil fr' st' a' w' ∧ After ε st.heap st.next w ε' st'.heap st'.next w' ∧ exitTo id kk = exitTo id k ∧ Steps P m (lone (b.atR a' (.code (.exit id) :: kk)) (csAt ε' st'.um cs) w')
  | .goto l fr' st' => ∃ ε' a' w' kk, Inv P E nt mask b cs ε' .nil fr' st' a' w' ∧ After ε st.heap st.next w ε' st'.heap st'.next w' ∧ gotoIn l kk = gotoIn l k ∧ Steps P m (lone (b.atR a' (.code (.goto l) :: kk)) (csAt ε' st'.um cs) w')
  | .ret fr' st' => ∃ ε' a' w' kk, Inv P E nt mask b cs ε' .nil fr' st' a' w' ∧ After ε st.heap st.next w ε' st'.heap st'.next w' ∧ Steps P m (lone (b.atR a' (.code .ret :: kk)) (csAt ε' st'.um cs) w')
  | .panic ch fr' st' => ∃ ε' a' w' todo, Inv P E nt mask b cs ε' .nil fr' st' a' w' ∧ After ε st.heap st.next w ε' st'.heap st'.next w' ∧ panOk (Dn st'.next) ε' ch ∧
      Steps P m (lone { b.atR a' todo with mode := .panicking (ch.map (gPan ε')) } (csAt ε' st'.um cs) w')

/-- A stretch ahead. -/
theorem COSound.trans {ε' : Env} {st' : St} {w' : World} {m m' : Machine} {r : CO} (ha : After ε st.heap st.next w ε' st'.heap st'.next w') (hs : Steps P m m') (h : COSound P E nt mask b cs k ε' st' w' m' r) : COSound P E nt mask b cs k ε st w m r := by
  cases r with
  | fail => trivial
  | normal fr st2 => obtain ⟨ε2, a2, w2, h1, h2, h3⟩ := h; exact ⟨ε2, a2, w2, h1, ha.trans h2, hs.trans h3⟩
  | exit id fr st2 => obtain ⟨ε2, a2, w2, kk, h1, h2, h3, h4⟩ := h; exact ⟨ε2, a2, w2, kk, h1, ha.trans h2, h3, hs.trans h4⟩
  | goto l fr st2 => obtain ⟨ε2, a2, w2, kk, h1, h2, h3, h4⟩ := h; exact ⟨ε2, a2, w2, kk, h1, ha.trans h2, h3, hs.trans h4⟩
  | ret fr st2 => obtain ⟨ε2, a2, w2, kk, h1, h2, h4⟩ := h; exact ⟨ε2, a2, w2, kk, h1, ha.trans h2, hs.trans h4⟩
  | panic ch fr st2 => obtain ⟨ε2, a2, w2, todo, h1, h2, h3, h4⟩ := h; exact ⟨ε2, a2, w2, todo, h1, ha.trans h2, h3, hs.trans h4⟩

theorem COSound.head {m m' : Machine} {r : CO} (hs : Steps P m m') (h : COSound P E nt mask b cs k ε st w m' r) : COSound P E nt mask b cs k ε st w m r := by
  cases r with
  | fail => trivial
  | normal fr st2 => obtain ⟨ε2, a2, w2, h1, h2, h3⟩ := h; exact ⟨ε2, a2, w2, h1, h2, hs.trans h3⟩
  | exit id fr st2 => obtain ⟨ε2, a2, w2, kk, h1, h2, h3, h4⟩ := h; exact ⟨ε2, a2, w2, kk, h1, h2, h3, hs.trans h4⟩
  | goto l fr st2 => obtain ⟨ε2, a2, w2, kk, h1, h2, h3, h4⟩ := h; exact ⟨ε2, a2, w2, kk, h1, h2, h3, hs.trans h4⟩
  | ret fr st2 => obtain ⟨ε2, a2, w2, kk, h1, h2, h4⟩ := h; exact ⟨ε2, a2, w2, kk, h1, h2, hs.trans h4⟩
  | panic ch fr st2 => obtain ⟨ε2, a2, w2, todo, h1, h2, h3, h4⟩ := h; exact ⟨ε2, a2, w2, todo, h1, h2, h3, hs.trans h4⟩

/-! ### What is kept -/
theorem keep_find (lc : Lc) (l : List Nat) (fr : Tr AV) (t : Nat) : (keep lc l fr).find t = if t ∈ l then lc.get fr t else fr.find t := by
  have key : ∀ (l : List Nat) (x : Tr AV), (List.rec (motive := fun _ => Tr AV → Tr AV) (fun x => x) (fun t _ ih x => ih (x.set t (lc.get fr t))) l x : Tr AV).find t = if t ∈ l then lc.get fr t else x.find t := by
    intro l
    induction l with
    | nil => intro x; simp
    | cons u l ih =>
      intro x
      refine (ih (x.set u (lc.get fr u))).trans ?_
      rw [Tr.find_set]
      by_cases h1 : t ∈ l
      · simp [h1]
      · by_cases h2 : u = t
        · subst h2; simp
        · have : ¬ t = u := fun h => h2 h.symm
          simp [h1, h2, this]
  exact key l fr

theorem mem_keepOf (mask : Nat) (t : Nat) : ∀ (l : List Oper), t ∈ keepOf mask l ↔ bit mask t = true ∧ ∃ o ∈ l, o.dst = some t
  | [] => by
    show t ∈ ([] : List Nat) ↔ _
    simp
  | o :: l => by
    have ih := mem_keepOf mask t l
    cases hd : o.dst with
    | none =>
      have : keepOf mask (o :: l) = keepOf mask l := by
        show (Option.rec (motive := fun _ => List Nat) (keepOf mask l) (fun d => bi (bit mask d) (d :: keepOf mask l) (keepOf mask l)) o.dst : List Nat) = _
        rw [hd]
      rw [this, ih]
      simp [hd]
    | some d =>
      have : keepOf mask (o :: l) = bi (bit mask d) (d :: keepOf mask l) (keepOf mask l) := by
        show (Option.rec (motive := fun _ => List Nat) (keepOf mask l) (fun d => bi (bit mask d) (d :: keepOf mask l) (keepOf mask l)) o.dst : List Nat) = _
        rw [hd]
      rw [this, bi_eq]
      split
      · rename_i hb
        simp only [List.mem_cons, ih]
        constructor
        · rintro (h | ⟨h1, p, h2, h3⟩)
          · subst h; exact ⟨hb, o, .inl rfl, hd⟩
          · exact ⟨h1, p, .inr h2, h3⟩
        · rintro ⟨h1, p, h2 | h2, h3⟩
          · subst h2; rw [hd] at h3; injection h3 with h3; exact .inl h3.symm
          · exact .inr ⟨h1, p, h2, h3⟩
      · rename_i hb
        simp only [List.mem_cons, ih]
        constructor
        · rintro ⟨h1, p, h2, h3⟩; exact ⟨h1, p, .inr h2, h3⟩
        · rintro ⟨h1, p, h2 | h2, h3⟩
          · subst h2; rw [hd] at h3; injection h3 with h3; subst h3; exact absurd h1 hb
          · exact ⟨h1, p, h2, h3⟩

theorem InvR.keep (hi : Inv P E nt mask b cs ε lc fr st a w) {l : List Oper} (hl : LcIn (fun t => ∃ o ∈ l, o.dst = some t) lc) : Inv P E nt mask b cs ε .nil (keep lc (keepOf mask l) fr) st a w := by
  refine ⟨hi.env, hi.glob, hi.sim, fun t _ v hv => ?_, hi.size, fun t v hv => ?_, hi.defs, hi.um⟩
  · rw [Lc.get_nil, keep_find] at hv
    split at hv
    · exact hi.reads t trivial v hv
    · rename_i hn
      refine hi.reads t trivial v ?_
      rw [hl.get fun ⟨o, ho, hd⟩ => hn ((mem_keepOf mask t l).2 ⟨hi.dom t v hv, o, ho, hd⟩)]
      exact hv
  · rw [keep_find] at hv
    split at hv
    · rename_i hm; exact ((mem_keepOf mask t l).1 hm).1
    · exact hi.dom t v hv

/-- A region's end. -/
theorem endR_ok {m : Machine} {r : RO} (h : ROSound P E nt mask b cs fr k ops [] ε st w m r) (hin : ROIn (fun t => ∃ o ∈ ops.toList, o.dst = some t) r) :
    COSound P E nt mask b cs k ε st w m (endR (keepOf mask ops.toList) fr r) := by
  cases r with
  | fail => trivial
  | on lc' st' =>
    obtain ⟨ε', a', w', h1, _, h2, h3⟩ := h
    exact ⟨ε', a', w', h1.keep hin, h2, h3.trans (.one stepR_region_end)⟩
  | panic ch lc' st' =>
    obtain ⟨ε', a', w', todo, h1, h2, h3, h4⟩ := h
    exact ⟨ε', a', w', todo, h1.keep hin, h2, h3, h4⟩

theorem allLt_eq (n : Nat) : ∀ (l : List Oper), allLt n l = true → ∀ o ∈ l, ∀ d, o.dst = some d → d < n
  | [], _, o, ho => by cases ho
  | p :: l, h, o, ho => by
    have h' : (Option.rec (motive := fun _ => Bool) (allLt n l) (fun d => bi (Nat.blt d n) (allLt n l) false) p.dst : Bool) = true := h
    intro d hd
    cases hp : p.dst with
    | none =>
      rw [hp] at h'
      rcases List.mem_cons.1 ho with ho | ho
      · subst ho; rw [hp] at hd; cases hd
      · exact allLt_eq n l h' o ho d hd
    | some e =>
      rw [hp] at h'
      have h2 : bi (Nat.blt e n) (allLt n l) false = true := h'
      rw [bi_eq] at h2
      split at h2
      · rename_i hlt
        rcases List.mem_cons.1 ho with ho | ho
        · subst ho; rw [hp] at hd; injection hd with hd; subst hd; simpa [Nat.blt_eq] using hlt
        · exact allLt_eq n l h2 o ho d hd
      · cases h2

theorem range_ops (ops : Array Oper) : (List.range ops.size).map (fun i => ops[i]?) = ops.toList.map some := by
  refine List.ext_getElem? fun i => ?_
  simp only [List.getElem?_map]
  by_cases h : i < ops.size
  · simp [h]
  · simp [h]

/-- What code must be. -/
def CodeSound (P : Program) (E : Env0) (nt mask : Nat) (b : Frame) (cs : List Frame) (run : Tr AV → St → CO) (c : Code) : Prop :=
  ∀ ε fr st a w k, Inv P E nt mask b cs ε .nil fr st a w → COSound P E nt mask b cs k ε st w (lone (b.atR a (.code c :: k)) (csAt ε st.um cs) w) (run fr st)

/-- A region in the text's order. -/
theorem plainCode {cx : Cx} (hcs : CallSound P cx.rx.call) (hrd : cx.rx.rd = b.roundOf.isSome) (id : Nat) (ops : Array Oper) : CodeSound P E nt mask b cs (xRegion E nt mask ops.toList false cx) (.region id ops false) := by
  intro ε fr st a w k hi
  unfold xRegion cRegion
  by_cases hlt : allLt nt ops.toList = true
  · rw [hlt]
    show COSound P E nt mask b cs k ε st w _ (endR (keepOf mask ops.toList) fr (unbox (cOps E (dstsOf ops.toList) ops.toList) cx.rx fr .nil st))
    rw [cOps_eq]
    refine COSound.head (.one stepR_region) (endR_ok (opsR hcs hrd ops.toList (List.range ops.size) (range_ops ops) (allLt_eq nt _ hlt) ε .nil st a w hi) ?_)
    exact xOps_in cx.rx ops.toList (fun o ho d hd => ⟨o, ho, hd⟩) .nil st trivial
  · have : allLt nt ops.toList = false := by simpa using hlt
    rw [this]
    trivial

end code
end Go.Proofs.YtbcnedhhebjhdaaGreatDoor.Fa
