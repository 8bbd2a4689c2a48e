/-
  Code, calls, the tables; a run cut into pieces; contracts. No condition.
-/
import Derived.Test.YtbcnedhhebjhdaaGreatDoorFa6

/-
  Code without ranges over functions, against the machine.
-/
namespace Go.Proofs.YtbcnedhhebjhdaaGreatDoor.Fa

section steps
variable {P : Program} {b : Frame} {a : Act} {k : List Item} {cs : List Frame} {w : World}
theorem stepR_scope {c : Code} : step P (lone (b.atR a (.code (.scope c) :: k)) cs w) = .next (lone (b.atR a (.code c :: .inScope c :: k)) cs w) :=
  step_lone_go (by simp [stepG, stepG.exec, Frame.atR])
theorem stepR_inScope {c : Code} : step P (lone (b.atR a (.inScope c :: k)) cs w) = .next (lone (b.atR a k) cs w) :=
  step_lone_go (by simp [stepG, stepG.exec, Frame.atR])
end steps

theorem findLabelA_eq : ∀ (c : Code) (l : Nat), findLabelA c l = findLabel c l
  | .seq a b, l => by
    unfold findLabelA findLabel
    rw [findLabelA_eq a l, findLabelA_eq b l]
    cases findLabel a l <;> rfl
  | .label k, l => by
    unfold findLabelA findLabel
    rw [bi_eq]
    by_cases h : k = l
    · subst h; simp [Nat.beq_refl]
    · have : Nat.beq k l = false := by cases hb : Nat.beq k l with
        | true => exact absurd (Nat.eq_of_beq_eq_true hb) h
        | false => rfl
      simp [this, h]
  | .skip, _ => rfl
  | .region _ _ _, _ => rfl
  | .cond _ _ _, _ => rfl
  | .block _ _, _ => rfl
  | .loop _, _ => rfl
  | .rangeFunc _ _ _ _, _ => rfl
  | .exit _, _ => rfl
  | .scope _, _ => rfl
  | .goto _, _ => rfl
  | .ret, _ => rfl
  | .refuse _, _ => rfl

section code
variable {P : Program} {E : Env0} {nt mask : Nat} {b : Frame} {cs : List Frame} {ε : Env} {st : St} {w : World} {k : List Item} {m : Machine}

theorem oc_elim {α : Type} {Φ : CO → Prop} {x : Option α} {f : α → CO} (h0 : Φ .fail) (h : ∀ v, x = some v → Φ (f v)) : Φ (oc x f) := by
  cases x with
  | none => exact h0
  | some v => exact h v rfl

/-- Behind an item that catches nothing. -/
theorem COSound.plain {x : Item} {r : CO} (hx : x.plain = true) (hr : ∀ fr st, r ≠ .normal fr st) (h : COSound P E nt mask b cs (x :: k) ε st w m r) : COSound P E nt mask b cs k ε st w m r := by
  have hexit : ∀ id, exitTo id (x :: k) = exitTo id k := fun id => by cases x <;> first | rfl | cases hx
  have hgoto : ∀ l, gotoIn l (x :: k) = gotoIn l k := fun l => by cases x <;> first | rfl | cases hx
  cases r with
  | fail => trivial
  | normal fr st2 => exact absurd rfl (hr fr st2)
  | exit id fr st2 => obtain ⟨ε2, a2, w2, kk, h1, h2, h3, h4⟩ := h; exact ⟨ε2, a2, w2, kk, h1, h2, h3.trans (hexit id), h4⟩
  | goto l fr st2 => obtain ⟨ε2, a2, w2, kk, h1, h2, h3, h4⟩ := h; exact ⟨ε2, a2, w2, kk, h1, h2, h3.trans (hgoto l), h4⟩
  | ret fr st2 => exact h
  | panic ch fr st2 => exact h

/-- Work, and then more. -/
theorem COSound.thenN {x : Item} {r : CO} {f : Tr AV → St → CO} (hx : x.plain = true) (h : COSound P E nt mask b cs (x :: k) ε st w m r)
    (hf : ∀ ε' fr' st' a' w', Inv P E nt mask b cs ε' .nil fr' st' a' w' → COSound P E nt mask b cs k ε' st' w' (lone (b.atR a' (x :: k)) (csAt ε' st'.um cs) w') (f fr' st')) :
    COSound P E nt mask b cs k ε st w m (thenN r f) := by
  cases r with
  | fail => trivial
  | normal fr' st' =>
    obtain ⟨ε', a', w', h1, h2, h3⟩ := h
    exact (hf ε' fr' st' a' w' h1).trans h2 h3
  | exit id fr' st' => exact COSound.plain hx (fun _ _ h => by cases h) h
  | goto l fr' st' => exact COSound.plain hx (fun _ _ h => by cases h) h
  | ret fr' st' => exact COSound.plain hx (fun _ _ h => by cases h) h
  | panic ch fr' st' => exact COSound.plain hx (fun _ _ h => by cases h) h

theorem seqCode {x y : Code} {rx ry : Tr AV → St → CO} (hx : CodeSound P E nt mask b cs rx x) (hy : CodeSound P E nt mask b cs ry y) : CodeSound P E nt mask b cs (fun fr st => Fa.thenN (rx fr st) ry) (.seq x y) := by
  intro ε fr st a w k hi
  refine COSound.head (.one stepR_seq) ((hx ε fr st a w (.code y :: k) hi).thenN rfl fun ε' fr' st' a' w' hi' => hy ε' fr' st' a' w' k hi')

theorem condCode {c : Operand} {x y : Code} {rx ry : Tr AV → St → CO} (hx : CodeSound P E nt mask b cs rx x) (hy : CodeSound P E nt mask b cs ry y) :
    CodeSound P E nt mask b cs (fun fr st => oc (gt (cOpd c) .nil fr) (onBool .fail fun t => bi t (rx fr st) (ry fr st))) (.cond c x y) := by
  intro ε fr st a w k hi
  refine oc_elim (Φ := COSound P E nt mask b cs k ε st w _) trivial fun v hv => ?_
  refine onBool_elim (Φ := COSound P E nt mask b cs k ε st w _) trivial fun t ht => ?_
  subst ht
  have h1 := ((hi.opAt (r1 c []) fun _ _ => trivial).gt hv fun t ht => (mem_r1 c []).1 t ht).1
  have hc : a.eval c = .bool t := by rw [h1]; simp [g]
  refine COSound.head (.one (stepR_cond hc)) ?_
  cases t with
  | true => exact hx ε fr st a w k hi
  | false => exact hy ε fr st a w k hi

theorem blockCode {id : Nat} {x : Code} {rx : Tr AV → St → CO} (hx : CodeSound P E nt mask b cs rx x) : CodeSound P E nt mask b cs (fun fr st => thenX id (rx fr st)) (.block id x) := by
  intro ε fr st a w k hi
  refine COSound.head (.one stepR_block) ?_
  have h := hx ε fr st a w (.inBlock id :: k) hi
  show COSound P E nt mask b cs k ε st w _ (thenX id (rx fr st))
  cases hr : rx fr st with
  | fail => trivial
  | normal fr' st' =>
    rw [hr] at h
    obtain ⟨ε', a', w', h1, h2, h3⟩ := h
    exact ⟨ε', a', w', h1, h2, h3.trans (.one stepR_inBlock)⟩
  | exit i fr' st' =>
    rw [hr] at h
    obtain ⟨ε', a', w', kk, h1, h2, h3, h4⟩ := h
    refine bi_elim (Φ := COSound P E nt mask b cs k ε st w _) (fun he => ?_) fun he => ?_
    · have hii : i = id := Nat.eq_of_beq_eq_true he
      subst hii
      have hx : exitTo i kk = some k := by rw [h3]; simp [exitTo]
      exact ⟨ε', a', w', h1, h2, h4.trans (.one (stepR_exit hx))⟩
    · have hne : ¬ id = i := fun h => by subst h; rw [Nat.beq_refl] at he; cases he
      exact ⟨ε', a', w', kk, h1, h2, by rw [h3]; simp [exitTo, hne], h4⟩
  | goto l fr' st' =>
    rw [hr] at h
    obtain ⟨ε', a', w', kk, h1, h2, h3, h4⟩ := h
    exact ⟨ε', a', w', kk, h1, h2, by rw [h3]; simp [gotoIn], h4⟩
  | ret fr' st' => rw [hr] at h; exact h
  | panic ch fr' st' => rw [hr] at h; exact h

theorem loopCode {x : Code} {rx : Tr AV → St → CO} (hx : CodeSound P E nt mask b cs rx x) (n : Nat) : CodeSound P E nt mask b cs (xLoop n rx) (.loop x) := by
  intro ε fr st a w k hi
  refine COSound.head (.one stepR_loop) ?_
  have key : ∀ (n : Nat) (ε : Env) (fr : Tr AV) (st : St) (a : Act) (w : World), Inv P E nt mask b cs ε .nil fr st a w → COSound P E nt mask b cs k ε st w (lone (b.atR a (.code x :: .inLoop x :: k)) (csAt ε st.um cs) w) (xLoop n rx fr st) := by
    intro n
    induction n with
    | zero => intro ε fr st a w hi; trivial
    | succ n ih =>
      intro ε fr st a w hi
      show COSound P E nt mask b cs k ε st w _ (Fa.thenN (rx fr st) (xLoop n rx))
      refine (hx ε fr st a w (.inLoop x :: k) hi).thenN rfl fun ε' fr' st' a' w' hi' => ?_
      exact COSound.head (.one stepR_inLoop) (ih ε' fr' st' a' w' hi')
  exact key n ε fr st a w hi

theorem scopeCode {x : Code} {cx : Cx} {rx : Tr AV → St → CO} (hgo : ∀ c, CodeSound P E nt mask b cs (cx.go c) c) (hx : CodeSound P E nt mask b cs rx x) (n : Nat) : CodeSound P E nt mask b cs (fun fr st => xScope n x cx (rx fr st)) (.scope x) := by
  intro ε fr st a w k hi
  refine COSound.head (.one stepR_scope) ?_
  have key : ∀ (n : Nat) (ε : Env) (st : St) (w : World) (m : Machine) (r : CO), COSound P E nt mask b cs (.inScope x :: k) ε st w m r → COSound P E nt mask b cs k ε st w m (xScope n x cx r) := by
    intro n
    induction n with
    | zero => intro ε st w m r _; trivial
    | succ n ih =>
      intro ε st w m r h
      show COSound P E nt mask b cs k ε st w m (thenG x cx (xScope n x cx) r)
      cases r with
      | fail => trivial
      | normal fr' st' =>
        obtain ⟨ε', a', w', h1, h2, h3⟩ := h
        exact ⟨ε', a', w', h1, h2, h3.trans (.one stepR_inScope)⟩
      | exit i fr' st' =>
        obtain ⟨ε', a', w', kk, h1, h2, h3, h4⟩ := h
        exact ⟨ε', a', w', kk, h1, h2, by rw [h3]; simp [exitTo], h4⟩
      | ret fr' st' => exact h
      | panic ch fr' st' => exact h
      | goto l fr' st' =>
        obtain ⟨ε', a', w', kk, h1, h2, h3, h4⟩ := h
        show COSound P E nt mask b cs k ε st w m (Option.rec (motive := fun _ => CO) (.goto l fr' st') (fun rest => xScope n x cx (cx.go rest fr' st')) (findLabelA x l))
        rw [findLabelA_eq]
        cases hf : findLabel x l with
        | none => exact ⟨ε', a', w', kk, h1, h2, by rw [h3]; simp [gotoIn, hf], h4⟩
        | some rest =>
          have hg : gotoIn l kk = some (.code rest :: .inScope x :: k) := by rw [h3]; simp [gotoIn, hf]
          have := ih ε' st' w' _ _ (hgo rest ε' fr' st' a' w' (.inScope x :: k) h1)
          exact this.trans h2 (h4.trans (.one (stepR_goto hg)))
  exact key n ε st w _ _ (hx ε fr st a w (.inScope x :: k) hi)

end code
end Go.Proofs.YtbcnedhhebjhdaaGreatDoor.Fa

/-
  A range over a function, against the machine.
-/
namespace Go.Proofs.YtbcnedhhebjhdaaGreatDoor.Fa

section steps
variable {P : Program} {b : Frame} {a : Act} {k : List Item} {cs : List Frame} {w : World}

/-- The world in which a range over a function calls. -/
def rangeWorld (w : World) (fn : FuncId) (tmps : Array Value) (ps : Array Tmp) (x y : Code) : World :=
  (w.alloc (.deferred (some []))).alloc (.loop { state := .ready, pending := none, fn := fn, tmps := tmps, params := ps, assign := x, body := y, defers := w.heap.size })

theorem stepR_rangeFunc {f : Operand} {ps : Array Tmp} {x y : Code} {n : FuncId} {first cap : Array Value} (hb : b.roundOf = none) (hf : a.eval f = .func (.func n) first cap)
    (hc : ∀ args w, (callFunc n args).run P w = .ok (.enter n args) w) :
    step P (lone (b.atR a (.code (.rangeFunc f ps x y) :: k)) cs w) = .next (lone (Frame.enter P n (first ++ #[.func (.yield (w.heap.size + 1)) #[] #[]] ++ cap) .normal)
      (b.atR { tmps := a.tmps, defers := { target := .collected w.heap.size, args := #[] } :: a.defers } (.inRangeFunc (w.heap.size + 1) :: k) :: cs) (rangeWorld w b.fn a.tmps ps x y)) := by
  refine step_lone_go ?_
  have hev : ∀ (d : List Deferred) (t : List Item) (z : Operand), ({ fn := b.fn, tmps := a.tmps, todo := t, defers := d, mode := .run, kind := b.kind, roundOf := none } : Frame).eval z = a.eval z := fun d t z => by cases z <;> rfl
  have hcst : ∀ v : Value, a.eval (.const v) = v := fun _ => rfl
  simp [stepG, stepG.exec, stepG.apply, Frame.atR, hb, Sem.runT_eq, Instr.enterLoop, newObj, Sem.run_bind, Sem.run, Result.andThen, rangeWorld, resolve, hev, hf, hcst, Deferred.ofValue, invoke, hc]
  rfl

theorem stepR_endRange {l : Nat} {jump : Option Code} {w' : World} (hr : (Instr.endLoop l).run P w = .ok jump w') :
    step P (lone (b.atR a (.endRangeFunc l :: k)) cs w) = .next (lone (b.atR a ((jump.map Item.code).toList ++ k)) cs w') :=
  step_lone_go (by simp [stepG, stepG.exec, Frame.atR, Sem.runT_eq, hr])
end steps

theorem finish_range (b : Frame) (a : Act) (l : Nat) (k : List Item) (v : Value) : (b.atR a (.inRangeFunc l :: k)).finish v = b.atR a (.endRangeFunc l :: k) := by simp [Frame.finish, Frame.atR]

theorem run_endLoop (P : Program) {w : World} {l : Nat} {r : Loop} (h : w.heap[l]? = some (.loop r)) (hs : (r.state == .busy) = false) :
    (Instr.endLoop l).run P w = .ok r.pending { w with heap := w.heap.setIfInBounds l (.loop { r with state := .exhausted }) } := by
  have hs' : ¬ r.state = .busy := fun h => by rw [h] at hs; cases hs
  simp [Instr.endLoop, Instr.getLoop, getObj, setObj, Sem.run_bind, Sem.run, h, hs', Result.andThen]

theorem onLoop_elim {α : Type} {Φ : α → Prop} {d : α} {k : Nat → Option Code → FuncId → Tr AV → Nat → Nat → List Tmp → Code → Code → α} {bl : ABlk} (h0 : Φ d) (h : ∀ s p f tm nt mask ps x y, bl = .loop s p f tm nt mask ps x y → Φ (k s p f tm nt mask ps x y)) : Φ (onLoop d k bl) := by
  cases bl <;> first | exact h _ _ _ _ _ _ _ _ _ rfl | exact h0

section code
variable {P : Program} {E : Env0} {nt mask : Nat} {b : Frame} {cs : List Frame}

theorem loopState_busy {s : Nat} (h : Nat.beq s 1 = false) : (loopState s == LoopState.busy) = false := by
  match s, h with
  | 0, _ => rfl
  | 1, h => cases h
  | 2, _ => rfl
  | s + 3, _ => rfl

theorem rangeCode {cx : Cx} (hcs : CallSound P cx.rx.call) (hrd : cx.rx.rd = b.roundOf.isSome) (hfn : cx.fn = b.fn) (hgo : ∀ c, CodeSound P E nt mask b cs (cx.go c) c) (f : Operand) (ps : Array Tmp) (x y : Code) :
    CodeSound P E nt mask b cs (xRange nt mask (cOpd f) ps.toList x y cx) (.rangeFunc f ps x y) := by
  intro ε fr st a w k hi
  refine bi_elim (Φ := COSound P E nt mask b cs k ε st w _) (fun _ => trivial) fun hrd0 => ?_
  have hb : b.roundOf = none := by
    rw [hrd] at hrd0
    cases hx : b.roundOf with
    | none => rfl
    | some l => rw [hx] at hrd0; cases hrd0
  refine oc_elim (Φ := COSound P E nt mask b cs k ε st w _) trivial fun fv hfv => ?_
  refine oc_elim (Φ := COSound P E nt mask b cs k ε st w _) trivial fun c hc => ?_
  refine oc_elim (Φ := COSound P E nt mask b cs k ε st w _) trivial fun r hr => ?_
  obtain ⟨hev, hfok⟩ := (hi.opAt (r1 f []) fun _ _ => trivial).gt hfv fun t ht => (mem_r1 f []).1 t ht
  -- what is called
  unfold rangeCall at hc
  cases fv with
  | fn fn first cap =>
    cases fn with
    | func n =>
      have hc' : some (ACall.func n (lapp first (.fn (.yield (Nat.succ st.next)) [] [] :: cap))) = some c := hc
      injection hc' with hc'
      subst hc'
      simp only [okv] at hfok
      have hev' : a.eval f = .func (.func n) (first.map (g ε)).toArray (cap.map (g ε)).toArray := by rw [hev]; simp [g, gFn]
      -- memory
      have ha1 : After ε st.heap st.next w (ε.at st.next w.heap.size 0 0) (st.heap.set st.next (some (.defs true))) (st.next + 1) (w.alloc (.deferred (some []))) :=
        After.alloc hi.sim (Env.at_agree (D := Dn st.next) (n := st.next) (Nat.lt_irrefl st.next) _ _ _ _) (Env.at_blk _ _ _ _ _) rfl rfl (.refl _)
      have ha2 : After (ε.at st.next w.heap.size 0 0) (st.heap.set st.next (some (.defs true))) (st.next + 1) (w.alloc (.deferred (some [])))
          ((ε.at st.next w.heap.size 0 0).at (st.next + 1) (w.heap.size + 1) 0 0) ((st.heap.set st.next (some (.defs true))).set (st.next + 1) (some (.loop 0 none cx.fn fr nt mask ps.toList x y))) (st.next + 2) (rangeWorld w b.fn a.tmps ps x y) := by
        have hag := Env.at_agree (D := Dn (st.next + 1)) (n := st.next + 1) (Nat.lt_irrefl _) (ε.at st.next w.heap.size 0 0) (w.heap.size + 1) 0 0
        refine After.alloc ha1.sim hag (by rw [Env.at_blk]; exact (Array.size_push (xs := w.heap) _).symm) ?_ rfl (.refl _)
        refine ⟨a.tmps, w.heap.size, by rw [hfn]; simp [loopState], hi.size, fun t v hv => ?_, hi.dom⟩
        obtain ⟨h1, h2⟩ := hi.reads t trivial v hv
        have hag2 := ha1.agree.trans hag fun i hi => Nat.lt_succ_of_lt hi
        exact ⟨by rw [h1, g_agree hag2 v h2], okv_agree hag2 (fun i hi => by unfold Dn at hi ⊢; omega) v h2⟩
      have ha := ha1.trans ha2
      generalize hε2 : (ε.at st.next w.heap.size 0 0).at (st.next + 1) (w.heap.size + 1) 0 0 = ε2 at ha ha2
      have hblk1 : ε2.blk (st.next + 1) = w.heap.size + 1 := by rw [← hε2, Env.at_blk]
      have hblk0 : ε2.blk st.next = w.heap.size := by
        rw [← hε2]
        simp [Env.at]
      have hglob2 : GlobOk (Dn (st.next + 2)) ε2 := hi.glob.agree ha.agree (Dn_le (by omega))
      have hargs : ∀ v ∈ lapp first (.fn (.yield (Nat.succ st.next)) [] [] :: cap), okv (Dn (st.next + 2)) ε2 v := by
        intro v hv
        simp only [lapp_eq, List.mem_append, List.mem_cons] at hv
        rcases hv with hv | hv | hv
        · exact okv_agree ha.agree (Dn_le (by omega)) v (hfok.2.1 v hv)
        · subst hv
          simp only [okv]
          refine ⟨fun l hl => ?_, fun _ h => (by cases h), fun _ h => (by cases h)⟩
          injection hl with hl
          subst hl
          exact Nat.lt_succ_self _
        · exact okv_agree ha.agree (Dn_le (by omega)) v (hfok.2.2 v hv)
      obtain ⟨fr0, hbeg, hres⟩ := hcs _ (openRange st (.loop 0 none cx.fn fr nt mask ps.toList x y)) r hr rfl rfl ε2 (rangeWorld w b.fn a.tmps ps x y) hglob2 ha2.sim hargs
      obtain ⟨hfr0, F, hF, hFb⟩ := hbeg
      obtain ⟨ε3, w3, ha3, hmatch⟩ := hres (b.atR { tmps := a.tmps, defers := { target := .collected w.heap.size, args := #[] } :: a.defers } (.inRangeFunc (w.heap.size + 1) :: k)) (csAt ε st.um cs)
      have hfirst : step P (lone (b.atR a (.code (.rangeFunc f ps x y) :: k)) (csAt ε st.um cs) w) = .next (lone fr0 (b.atR { tmps := a.tmps, defers := { target := .collected w.heap.size, args := #[] } :: a.defers } (.inRangeFunc (w.heap.size + 1) :: k) :: csAt ε st.um cs) (rangeWorld w b.fn a.tmps ps x y)) := by
        rw [stepR_rangeFunc hb hev' (fun args w => callFunc_enter hi.env hF hFb args w), hfr0]
        congr 3
        apply Array.ext'
        have h1 : first.map (g ε2) = first.map (g ε) := map_g_agree ha.agree hfok.2.1
        have h2 : cap.map (g ε2) = cap.map (g ε) := map_g_agree ha.agree hfok.2.2
        simp [h1, h2, g, gFn, hblk1]
      obtain ⟨e, st3⟩ := r
      cases e with
      | panicked ch => trivial
      | returned v =>
        obtain ⟨hv, hsteps⟩ := hmatch
        rw [finish_range] at hsteps
        show COSound P E nt mask b cs k ε st w _ (oc (st3.heap.find (Nat.succ st.next)) (onLoop .fail fun s pend f tm nt mask ps a b => bi (Nat.beq s 1) .fail
          ((fun st2 => Option.rec (motive := fun _ => CO) (.normal fr st2) (fun c => cx.go c fr st2) pend) (rangeBack st st3 (st3.heap.set (Nat.succ st.next) (some (.loop 3 pend f tm nt mask ps a b)))))))
        refine oc_elim (Φ := COSound P E nt mask b cs k ε st w _) trivial fun bl hbl => ?_
        refine onLoop_elim (Φ := COSound P E nt mask b cs k ε st w _) trivial fun s pend lf ltm lnt lmask lps la lb hb' => ?_
        subst hb'
        refine bi_elim (Φ := COSound P E nt mask b cs k ε st w _) (fun _ => trivial) fun hs1 => ?_
        have ha3' : After ε2 ((st.heap.set st.next (some (.defs true))).set (st.next + 1) (some (.loop 0 none cx.fn fr nt mask ps.toList x y))) (st.next + 2) (rangeWorld w b.fn a.tmps ps x y) ε3 st3.heap st3.next w3 := ha3
        obtain ⟨obj, hobj, hbok⟩ := ha3'.sim.obj _ _ hbl
        obtain ⟨tmps, ds, hx, hn, hfr, hm⟩ := hbok
        have hε3 : ε3.blk (st.next + 1) = w.heap.size + 1 := by rw [(ha3'.agree (st.next + 1) (by unfold Dn; omega)).1, hblk1]
        have hε3' : ε3.blk st.next = w.heap.size := by rw [(ha3'.agree st.next (by unfold Dn; omega)).1, hblk0]
        have hobj' : w3.heap[w.heap.size + 1]? = some (.loop { state := loopState s, pending := pend, fn := lf, tmps := tmps, params := lps.toArray, assign := la, body := lb, defers := ds }) := by
          rw [← hε3, ← hx]
          exact hobj
        have hend := run_endLoop P hobj' (loopState_busy hs1)
        have ha4 : After ε3 st3.heap st3.next w3 ε3 (st3.heap.set (st.next + 1) (some (.loop 3 pend lf ltm lnt lmask lps la lb))) st3.next
            { w3 with heap := w3.heap.setIfInBounds (w.heap.size + 1) (.loop { state := .exhausted, pending := pend, fn := lf, tmps := tmps, params := lps.toArray, assign := la, body := lb, defers := ds }) } :=
          After.put ha3'.sim hbl rfl (o := .loop { state := .exhausted, pending := pend, fn := lf, tmps := tmps, params := lps.toArray, assign := la, body := lb, defers := ds }) ⟨tmps, ds, rfl, hn, hfr, hm⟩ (by rw [hε3]) ⟨rfl, rfl, rfl⟩
        have hall := (ha.trans ha3').trans ha4
        have hinv : Inv P E nt mask b cs ε3 .nil fr (rangeBack st st3 (st3.heap.set (Nat.succ st.next) (some (.loop 3 pend lf ltm lnt lmask lps la lb)))) { tmps := a.tmps, defers := { target := .collected w.heap.size, args := #[] } :: a.defers }
            { w3 with heap := w3.heap.setIfInBounds (w.heap.size + 1) (.loop { state := .exhausted, pending := pend, fn := lf, tmps := tmps, params := lps.toArray, assign := la, body := lb, defers := ds }) } := by
          refine ⟨hi.env, hi.glob.agree hall.agree (Dn_le hall.le), hall.sim, fun t _ v hv => ?_, hi.size, hi.dom, ⟨_, _, rfl, ⟨by rw [hε3'], ?_⟩, hi.defs.agree hall.agree (Dn_le hall.le)⟩, hi.um.agree hall.agree (Dn_le hall.le)⟩
          · obtain ⟨h1, h2⟩ := hi.reads t trivial v hv
            exact ⟨by rw [← g_agree hall.agree v h2] at h1; exact h1, okv_agree hall.agree (Dn_le hall.le) v h2⟩
          · have h1 := ha.le
            have h2 := ha3'.le
            show st.next < st3.next
            omega
        have hcs' : csAt ε3 st.um cs = csAt ε st.um cs := csAt_agree hi.um hall.agree
        have hstepsAll : Steps P (lone (b.atR a (.code (.rangeFunc f ps x y) :: k)) (csAt ε st.um cs) w) (lone (b.atR { tmps := a.tmps, defers := { target := .collected w.heap.size, args := #[] } :: a.defers } ((pend.map Item.code).toList ++ k)) (csAt ε3 st.um cs)
            { w3 with heap := w3.heap.setIfInBounds (w.heap.size + 1) (.loop { state := .exhausted, pending := pend, fn := lf, tmps := tmps, params := lps.toArray, assign := la, body := lb, defers := ds }) }) := by
          rw [hcs']
          exact .head hfirst (hsteps.trans (.one (stepR_endRange hend)))
        cases pend with
        | none => exact ⟨ε3, _, _, hinv, hall, hstepsAll⟩
        | some j =>
          have := hgo j ε3 fr _ _ _ k hinv
          exact this.trans hall hstepsAll
    | _ => cases hc
  | _ => cases hc

end code
end Go.Proofs.YtbcnedhhebjhdaaGreatDoor.Fa

/-
  All code; a function's results.
-/
namespace Go.Proofs.YtbcnedhhebjhdaaGreatDoor.Fa

section code
variable {P : Program} {E : Env0} {nt mask : Nat} {b : Frame} {cs : List Frame}

theorem xCode_loop (x : Code) (cx : Cx) : xCode E nt mask (.loop x) cx = fun fr st => xLoop most (xCode E nt mask x cx) fr st := rfl
theorem xCode_scope (x : Code) (cx : Cx) : xCode E nt mask (.scope x) cx = fun fr st => xScope most x cx (xCode E nt mask x cx fr st) := rfl

theorem codeSound (hmix : P.follows .mixedOrders = true) {cx : Cx} (hcs : CallSound P cx.rx.call) (hrd : cx.rx.rd = b.roundOf.isSome) (hfn : cx.fn = b.fn) (hgo : ∀ c, CodeSound P E nt mask b cs (cx.go c) c) (c : Code) :
    CodeSound P E nt mask b cs (xCode E nt mask c cx) c := by
  induction c with
  | skip => exact fun ε fr st a w k hi => ⟨ε, a, w, hi, After.refl hi.sim, .one stepR_skip⟩
  | region id ops draw =>
    cases draw with
    | false => exact plainCode hcs hrd id ops
    | true => exact drawCode hmix hcs hrd id ops
  | seq x y hx hy => exact seqCode hx hy
  | cond c x y hx hy => exact condCode (c := c) hx hy
  | block id x hx => exact blockCode hx
  | loop x hx =>
    rw [xCode_loop]
    exact loopCode hx most
  | rangeFunc f ps x y _ _ => exact rangeCode hcs hrd hfn hgo f ps x y
  | exit id => exact fun ε fr st a w k hi => ⟨ε, a, w, k, hi, After.refl hi.sim, rfl, .refl _ _⟩
  | scope x hx =>
    rw [xCode_scope]
    exact scopeCode hgo hx most
  | label l => exact fun ε fr st a w k hi => ⟨ε, a, w, hi, After.refl hi.sim, .one stepR_label⟩
  | goto l => exact fun ε fr st a w k hi => ⟨ε, a, w, k, hi, After.refl hi.sim, rfl, .refl _ _⟩
  | ret => exact fun ε fr st a w k hi => ⟨ε, a, w, k, hi, After.refl hi.sim, .refl _ _⟩
  | refuse why => exact fun _ _ _ _ _ _ _ => trivial

theorem goSound (hmix : P.follows .mixedOrders = true) {rx : Rx} (hcs : CallSound P rx.call) (hrd : rx.rd = b.roundOf.isSome) : ∀ (n : Nat) (c : Code), CodeSound P E nt mask b cs (goN E nt mask rx b.fn n c) c
  | 0, _ => fun _ _ _ _ _ _ _ => trivial
  | n + 1, c => codeSound (cx := { rx := rx, go := goN E nt mask rx b.fn n, fn := b.fn }) hmix hcs hrd rfl (goSound hmix hcs hrd n) c
end code

/-! ### Results -/
section results
variable {P : Program} {E : Env0} {nt mask : Nat} {b : Frame} {cs : List Frame} {ε : Env} {lc : Lc} {fr : Tr AV} {st : St} {a : Act} {w : World}

theorem load_cell (hi : Inv P E nt mask b cs ε .nil fr st a w) {x : Nat} {t : TypeId} {v : AV}
    (h : ob (fr.find x) (onPtr none fun id off => ob (E.type t) fun i => bi (isAggD i.desc) (ob (readCells st.heap id off i.size) fun cs => some (.agg cs)) (ob (rowAt st.heap id) fun cs => lget cs off)) = some v) :
    (do loadVar t (← asAddr (a.tmps.getD x undef)) : Sem Value).run P w = .ok (g ε v) w ∧ okv (Dn st.next) ε v := by
  rw [ob_eq_some] at h
  obtain ⟨p, hp, h0⟩ := h
  obtain ⟨id, off, rfl, h⟩ := onPtr_some h0
  clear h0
  obtain ⟨h1, h2⟩ := hi.reads x trivial _ hp
  rw [ob_eq_some] at h
  obtain ⟨i, hit, h⟩ := h
  have hty := hi.env.tyOk hit
  rw [bi_eq] at h
  split at h
  · rename_i hagg
    rw [ob_eq_some] at h
    obtain ⟨cs', hcs, h⟩ := h
    injection h with h
    subst h
    obtain ⟨h3, h4, _⟩ := readCells_ok (P := P) hi.sim hcs
    refine ⟨?_, by simp only [okv]; exact h4⟩
    simp [asAddr, loadVar, h1, g, hty.run_isAgg, hagg, hty.run_sizeOf, h3]
  · rename_i hagg
    rw [ob_eq_some] at h
    obtain ⟨row, hrow, h⟩ := h
    rw [lget_eq] at h
    obtain ⟨h3, h4, _⟩ := cell_ok hi.sim hrow h
    refine ⟨?_, h4⟩
    simp [asAddr, loadVar, h1, g, hty.run_isAgg, hagg, h3]

/-- One result. -/
def resOf (tmps : Array Value) : ResultVar → Sem Value
  | .tmp t => pure (tmps.getD t undef)
  | .cell x t => do loadVar t (← asAddr (tmps.getD x undef))

noncomputable def resAV (E : Env0) (fr : Tr AV) (h : Heap) : ResultVar → Option AV
  | .tmp t => fr.find t
  | .cell a t => ob (fr.find a) (onPtr none fun id off => ob (E.type t) fun i => bi (isAggD i.desc) (ob (readCells h id off i.size) fun cs => some (.agg cs)) (ob (rowAt h id) fun cs => lget cs off))

theorem results_cons (fr : Tr AV) (h : Heap) (r : ResultVar) (l : List ResultVar) : results E fr h (r :: l) = (resAV E fr h r).bind fun v => (results E fr h l).bind fun vs => some (v :: vs) := by
  cases r <;> rfl

theorem resOf_ok (hi : Inv P E nt mask b cs ε .nil fr st a w) {r : ResultVar} {v : AV} (hv : resAV E fr st.heap r = some v) : (resOf a.tmps r).run P w = .ok (g ε v) w ∧ okv (Dn st.next) ε v := by
  cases r with
  | tmp t =>
    obtain ⟨h1, h2⟩ := hi.reads t trivial v hv
    exact ⟨by rw [← h1]; rfl, h2⟩
  | cell x t => exact load_cell hi hv

theorem results_list (hi : Inv P E nt mask b cs ε .nil fr st a w) : ∀ (rs : List ResultVar) (vs : List AV), results E fr st.heap rs = some vs →
    (rs.mapM (resOf a.tmps)).run P w = .ok (vs.map (g ε)) w ∧ ∀ v ∈ vs, okv (Dn st.next) ε v
  | [], vs, h => by
    have h' : some [] = some vs := h
    injection h' with h'
    subst h'
    exact ⟨rfl, fun v hv => by cases hv⟩
  | r :: rs, vs, h => by
    rw [results_cons, Option.bind_eq_some_iff] at h
    obtain ⟨v, hv, h⟩ := h
    rw [Option.bind_eq_some_iff] at h
    obtain ⟨ws, hws, h⟩ := h
    injection h with h
    subst h
    obtain ⟨ih1, ih2⟩ := results_list hi rs ws hws
    obtain ⟨h1, h2⟩ := resOf_ok hi hv
    refine ⟨?_, fun u hu => ?_⟩
    · rw [List.mapM_cons, Sem.run_bind, h1]
      show ((rs.mapM (resOf a.tmps)) >>= fun vs => pure (g ε v :: vs) : Sem (List Value)).run P w = _
      rw [Sem.run_bind, ih1]
      rfl
    · rcases List.mem_cons.1 hu with hu | hu
      · subst hu; exact h2
      · exact ih2 u hu

theorem results_ok (hi : Inv P E nt mask b cs ε .nil fr st a w) {fn : Func} {vs : List AV} (h : results E fr st.heap fn.results.toList = some vs) : (Go.results fn a.tmps).run P w = .ok (g ε (asResult vs)) w ∧ okv (Dn st.next) ε (asResult vs) := by
  obtain ⟨h1, h2⟩ := results_list hi fn.results.toList vs h
  have hrun : (fn.results.mapM (resOf a.tmps)).run P w = .ok (vs.map (g ε)).toArray w := by
    rw [Array.mapM_eq_mapM_toList]
    simp [h1]
  constructor
  · have hres : Go.results fn a.tmps = (do let vs ← fn.results.mapM (resOf a.tmps); pure (if h : vs.size = 1 then vs[0] else .tuple vs)) := by
      unfold Go.results
      congr 1
    rw [hres, Sem.run_bind, hrun]
    match vs with
    | [] => simp [asResult, g]
    | [v] => simp [asResult]
    | v :: u :: l => simp [asResult, g]
  · match vs, h2 with
    | [], _ => simp [asResult, okv]
    | [v], h2 => exact h2 v (by simp)
    | v :: u :: l, h2 => simp only [asResult, okv]; exact h2

end results
end Go.Proofs.YtbcnedhhebjhdaaGreatDoor.Fa

/-
  A frame is left: its deferred calls, its end.
-/
namespace Go.Proofs.YtbcnedhhebjhdaaGreatDoor.Fa

section steps
variable {P : Program} {fr c : Frame} {cs : List Frame} {w w' : World}

theorem stepU_mark {blk : Nat} {args : Array Value} {ds : List Deferred} (hm : fr.mode ≠ .run) (hd : fr.defers = { target := .collected blk, args := args } :: ds) (hr : (Instr.takeDeferred blk).run P w = .ok [] w') :
    step P (lone fr cs w) = .next (lone { fr with defers := ds } cs w') := by
  refine step_lone_go ?_
  cases hmode : fr.mode with
  | run => exact absurd hmode hm
  | returning => simp [stepG, unwind, hmode, hd, Sem.runT_eq, hr]
  | panicking ch => simp [stepG, unwind, hmode, hd, Sem.runT_eq, hr]

theorem stepU_call {f : FuncId} {xs ys : Array Value} {ds : List Deferred} (hm : fr.mode ≠ .run) (hd : fr.defers = { target := .fn (.func f) ys, args := xs } :: ds) (hr : (callFunc f (xs ++ ys)).run P w = .ok (.enter f (xs ++ ys)) w) :
    step P (lone fr cs w) = .next (lone (Frame.enter P f (xs ++ ys) .deferred) ({ fr with defers := ds } :: cs) w) := by
  refine step_lone_go ?_
  cases hmode : fr.mode with
  | run => exact absurd hmode hm
  | returning => simp [stepG, unwind, callDeferred, hmode, hd, Sem.runT_eq, invoke, hr]
  | panicking ch => simp [stepG, unwind, callDeferred, hmode, hd, Sem.runT_eq, invoke, hr]

/-- A caller whose deferred call has returned. -/
def settleF (c : Frame) : Frame := match c.mode with
  | .panicking ({ recovered := true, .. } :: older) => match older.dropWhile (!·.goexit) with
    | [] => { c with mode := .returning }
    | rest => { c with mode := .panicking rest }
  | _ => c

theorem stepU_ret {fn : Func} {v : Value} (hm : fr.mode = .returning) (hd : fr.defers = []) (hk : fr.kind = .deferred) (hf : P.funcs[fr.fn]? = some fn) (hr : (Go.results fn fr.tmps).run P w = .ok v w) :
    step P (lone fr (c :: cs) w) = .next (lone (settleF c) cs w) := by
  refine step_lone_go ?_
  simp [stepG, unwind, hm, hd, hf, Sem.runT_eq, hr, doReturn, hk, settleF]
  rfl

theorem stepU_panic {fn : Func} {chain : List PanicEntry} (hm : fr.mode = .panicking chain) (hd : fr.defers = []) (hf : P.funcs[fr.fn]? = some fn) :
    step P (lone fr (c :: cs) w) = .next (lone (c.raise chain) cs w) :=
  step_lone_go (by simp [stepG, unwind, Frame.catches, hm, hd, hf])

theorem stepU_retN {fn : Func} {v : Value} (hm : fr.mode = .returning) (hd : fr.defers = []) (hk : fr.kind = .normal) (hf : P.funcs[fr.fn]? = some fn) (hr : (Go.results fn fr.tmps).run P w = .ok v w) :
    step P (lone fr (c :: cs) w) = .next (lone (c.finish v) cs w) :=
  step_lone_go (by simp [stepG, unwind, hm, hd, hf, Sem.runT_eq, hr, doReturn, hk])
end steps

def modeOf (ε : Env) : Option (List APan) → FrameMode
  | none => .returning
  | some ch => .panicking (ch.map (gPan ε))

theorem modeOf_run (ε : Env) (m : Option (List APan)) : modeOf ε m ≠ .run := by cases m <;> (intro h; cases h)

def chOk (D : Nat → Prop) (ε : Env) : Option (List APan) → Prop
  | none => True
  | some ch => panOk D ε ch

theorem modeOf_agree {D : Nat → Prop} {ε ε' : Env} {m : Option (List APan)} (h : chOk D ε m) (ha : Agree D ε ε') : modeOf ε' m = modeOf ε m := by
  cases m with
  | none => rfl
  | some ch => simp only [modeOf]; rw [gPan_agree ha h]

/-- What a frame that is left must come to. -/
def LeaveRes (P : Program) (f : FuncId) (kind : CallKind) (cs : List Frame) (ε : Env) (st : St) (w : World) (m : Machine) (r : AEnd × St) : Prop :=
  ∃ ε' w' fr', After ε st.heap st.next w ε' r.2.heap r.2.next w' ∧ UmOk (Dn r.2.next) ε' kind cs r.2.um ∧ Steps P m (lone fr' (csAt ε' r.2.um cs) w') ∧ fr'.fn = f ∧ fr'.defers = [] ∧ fr'.kind = kind ∧ match r.1 with
    | .returned v => fr'.mode = .returning ∧ okv (Dn r.2.next) ε' v ∧ ∃ fn, P.funcs[f]? = some fn ∧ (Go.results fn fr'.tmps).run P w' = .ok (g ε' v) w'
    | .panicked ch => fr'.mode = .panicking (ch.map (gPan ε')) ∧ panOk (Dn r.2.next) ε' ch

def FuncSound (P : Program) (call : CallF) : Prop := ∀ f as st r, call (.func f as) st = some r → st.defers = [] → ∀ ε w kind cs, GlobOk (Dn st.next) ε → Sim (Dn st.next) ε st.heap.find w → (∀ x ∈ as, okv (Dn st.next) ε x) → UmOk (Dn st.next) ε kind cs st.um →
  (∃ F, P.funcs[f]? = some F ∧ F.body.isSome = true) ∧ LeaveRes P f kind cs ε st w (lone (Frame.enter P f (as.map (g ε)).toArray kind) (csAt ε st.um cs) w) r

theorem LeaveRes.trans {P : Program} {f : FuncId} {kind : CallKind} {cs : List Frame} {ε ε' : Env} {st st' : St} {w w' : World} {m m' : Machine} {r : AEnd × St} (ha : After ε st.heap st.next w ε' st'.heap st'.next w') (hs : Steps P m m')
    (h : LeaveRes P f kind cs ε' st' w' m' r) : LeaveRes P f kind cs ε st w m r := by
  obtain ⟨ε2, w2, fr2, h1, h2, h3, h4⟩ := h
  exact ⟨ε2, w2, fr2, ha.trans h1, h2, hs.trans h3, h4⟩

theorem oe_some {x : Option (AEnd × St)} {k : AEnd → St → Option (AEnd × St)} {r : AEnd × St} (h : oe x k = some r) : ∃ e st, x = some (e, st) ∧ k e st = some r := by
  cases x with
  | none => cases h
  | some y => exact ⟨y.1, y.2, rfl, h⟩

theorem run_take (P : Program) {w : World} {blk : Nat} (h : w.heap[blk]? = some (.deferred (some []))) : (Instr.takeDeferred blk).run P w = .ok [] { w with heap := w.heap.setIfInBounds blk (.deferred none) } := by
  simp [Instr.takeDeferred, getObj, setObj, Sem.run_bind, Sem.run, h, Result.andThen]

theorem drop_all (ε : Env) : ∀ l : List APan, (l.map (gPan ε)).dropWhile (fun x => !x.goexit) = []
  | [] => rfl
  | q :: l => by
    rw [List.map_cons, List.dropWhile_cons]
    simpa [gPan] using drop_all ε l

theorem settle_mode (ε : Env) (c : Frame) (m : Option (List APan)) (hm : c.mode = modeOf ε m) : settleF c = { c with mode := modeOf ε (settleA m) } := by
  have heta : ∀ x : FrameMode, c.mode = x → c = { c with mode := x } := fun x hx => by cases c; cases hx; rfl
  cases m with
  | none =>
    unfold settleF
    rw [hm]
    exact heta _ hm
  | some ch =>
    cases ch with
    | nil =>
      unfold settleF
      rw [hm]
      exact heta _ hm
    | cons p l =>
      obtain ⟨v, rec⟩ := p
      cases rec with
      | false =>
        unfold settleF
        rw [hm]
        exact heta _ hm
      | true =>
        unfold settleF
        rw [hm]
        simp only [modeOf, List.map_cons, gPan]
        rw [show (l.map (gPan ε)).dropWhile (fun x => !x.goexit) = [] from drop_all ε l]
        rfl

section leave
variable {P : Program} {E : Env0} {nt mask : Nat} {b : Frame} {cs : List Frame} {fr : Tr AV}

theorem xLeave_ok {call : CallF} (hfs : FuncSound P call) {fn : Func} (hfn : P.funcs[b.fn]? = some fn) : ∀ (n : Nat) (st : St) (chain : Option (List APan)) (r : AEnd × St), xLeave E call fn.results.toList fr n st chain = some r →
    ∀ ε a w todo, Inv P E nt mask b cs ε .nil fr st a w → chOk (Dn st.next) ε chain → LeaveRes P b.fn b.kind cs ε st w (lone { b.atR a todo with mode := modeOf ε chain } (csAt ε st.um cs) w) r := by
  intro n
  induction n with
  | zero => intro st chain r h; cases h
  | succ n ih =>
    intro st chain r h ε a w todo hi hch
    unfold xLeave at h
    have hdefs := hi.defs
    cases hds : st.defers with
    | nil =>
      rw [hds] at h hdefs
      have hnil : a.defers = [] := hdefs
      cases chain with
      | some ch =>
        have h' : some (AEnd.panicked ch, st) = some r := h
        injection h' with h'
        subst h'
        exact ⟨ε, w, _, After.refl hi.sim, hi.um, .refl _ _, rfl, hnil, rfl, rfl, hch⟩
      | none =>
        have h' : (results E fr st.heap fn.results.toList).bind (fun vs => some (AEnd.returned (asResult vs), st)) = some r := h
        rw [Option.bind_eq_some_iff] at h'
        obtain ⟨vs, hvs, h'⟩ := h'
        injection h' with h'
        subst h'
        obtain ⟨h1, h2⟩ := results_ok hi hvs
        exact ⟨ε, w, _, After.refl hi.sim, hi.um, .refl _ _, rfl, hnil, rfl, rfl, h2, fn, hfn, h1⟩
    | cons d ds =>
      rw [hds] at h hdefs
      obtain ⟨dC, dsC, had, hdok, hdsok⟩ := hdefs
      cases d with
      | mark id =>
        obtain ⟨hd1, hid⟩ := hdok
        have h' : (match st.heap.find id with
          | some (.defs true) => xLeave E call fn.results.toList fr n (defBack st st ds (st.heap.set id (some (.defs false)))) chain
          | _ => none) = some r := h
        cases hf : st.heap.find id with
        | none => rw [hf] at h'; cases h'
        | some bl =>
          rw [hf] at h'
          cases bl with
          | defs t =>
            cases t with
            | false => cases h'
            | true =>
              have h2 : xLeave E call fn.results.toList fr n (defBack st st ds (st.heap.set id (some (.defs false)))) chain = some r := h'
              obtain ⟨x, hx, hbx⟩ := hi.sim.obj id _ hf
              have hbx' : x = .deferred (some []) := hbx
              subst hbx'
              have ha : After ε st.heap st.next w ε (st.heap.set id (some (.defs false))) st.next { w with heap := w.heap.setIfInBounds (ε.blk id) (.deferred none) } :=
                After.put hi.sim hf rfl (o := .deferred none) rfl rfl ⟨rfl, rfl, rfl⟩
              have hstep : step P (lone { b.atR a todo with mode := modeOf ε chain } (csAt ε st.um cs) w) = .next (lone { b.atR { tmps := a.tmps, defers := dsC } todo with mode := modeOf ε chain } (csAt ε st.um cs) { w with heap := w.heap.setIfInBounds (ε.blk id) (.deferred none) }) :=
                stepU_mark (fr := { b.atR a todo with mode := modeOf ε chain }) (modeOf_run ε chain) (blk := ε.blk id) (args := #[]) (ds := dsC) (by rw [← hd1]; exact had) (run_take P hx)
              refine LeaveRes.trans (st' := defBack st st ds (st.heap.set id (some (.defs false)))) ha (.one hstep) ?_
              exact ih _ chain r h2 ε { tmps := a.tmps, defers := dsC } _ todo ⟨hi.env, hi.glob, ha.sim, hi.reads, hi.size, hi.dom, hdsok, hi.um⟩ hch
          | _ => cases h'
      | call f2 as =>
        obtain ⟨⟨xs, ys, hd1, hxy⟩, hasok⟩ := hdok
        have h' : oe (call (.func f2 as) (defSt st chain)) (fun e st' => match e with
          | .returned _ => xLeave E call fn.results.toList fr n (defBack st st' ds st'.heap) (settleA st'.um)
          | .panicked ch => xLeave E call fn.results.toList fr n (defBack st st' ds st'.heap) (some (ch ++ st'.um.getD []))) = some r := h
        obtain ⟨e, st', hcall, h2⟩ := oe_some h'
        -- the frame that waits
        have hc0 : ∃ c0 : Frame, c0 = { b.atR { tmps := a.tmps, defers := dsC } todo with mode := modeOf ε chain } := ⟨_, rfl⟩
        obtain ⟨c0, hc0⟩ := hc0
        have hum2 : UmOk (Dn (defSt st chain).next) ε .deferred (c0 :: csAt ε st.um cs) (defSt st chain).um := by
          show UmOk (Dn st.next) ε .deferred (c0 :: csAt ε st.um cs) chain
          cases chain with
          | none => exact .inr ⟨rfl, c0, _, rfl, by rw [hc0]; rfl⟩
          | some ch => exact ⟨rfl, by simp, hch⟩
        obtain ⟨⟨F2, hF2, hb2⟩, ε', w', fr', ha, hum', hsteps, hfn', hdef', hkind', hmatch⟩ := hfs f2 as (defSt st chain) (e, st') hcall rfl ε w .deferred (c0 :: csAt ε st.um cs) hi.glob hi.sim hasok hum2
        have ha : After ε st.heap st.next w ε' st'.heap st'.next w' := ha
        have hcs0 : csAt ε chain (c0 :: csAt ε st.um cs) = c0 :: csAt ε st.um cs := by
          cases chain with
          | none => rfl
          | some ch =>
            simp only [csAt]
            rw [hc0]
            rfl
        have hfirst : step P (lone { b.atR a todo with mode := modeOf ε chain } (csAt ε st.um cs) w) = .next (lone (Frame.enter P f2 (as.map (g ε)).toArray .deferred) (csAt ε (defSt st chain).um (c0 :: csAt ε st.um cs)) w) := by
          show _ = Stepped.next (lone _ (csAt ε chain (c0 :: csAt ε st.um cs)) w)
          rw [hcs0, ← hxy, hc0]
          exact stepU_call (fr := { b.atR a todo with mode := modeOf ε chain }) (modeOf_run ε chain) (f := f2) (xs := xs) (ys := ys) (ds := dsC) (by rw [← hd1]; exact had) (callFunc_enter hi.env hF2 hb2 _ _)
        -- the frame that waits, behind the call
        have hc1 : csAt ε' st'.um (c0 :: csAt ε st.um cs) = { b.atR { tmps := a.tmps, defers := dsC } todo with mode := modeOf ε' st'.um } :: csAt ε st.um cs := by
          have hum'' : UmOk (Dn st'.next) ε' .deferred (c0 :: csAt ε st.um cs) st'.um := hum'
          cases hu : st'.um with
          | none =>
            rw [hu] at hum''
            rcases hum'' with hk | ⟨_, c, rest, hcc, hmode⟩
            · cases hk
            · injection hcc with hcc _
              subst hcc
              rw [hc0] at hmode
              have hmode' : modeOf ε chain = .returning := hmode
              show c0 :: csAt ε st.um cs = _
              rw [hc0, hmode']
              rfl
          | some ch =>
            simp only [csAt]
            rw [hc0]
            rfl
        have hcs' : csAt ε' st.um cs = csAt ε st.um cs := csAt_agree hi.um ha.agree
        have hchOk' : chOk (Dn st'.next) ε' st'.um := by
          have hum'' : UmOk (Dn st'.next) ε' .deferred (c0 :: csAt ε st.um cs) st'.um := hum'
          cases hu : st'.um with
          | none => trivial
          | some ch => rw [hu] at hum''; exact hum''.2.2
        have hinv : Inv P E nt mask b cs ε' .nil fr (defBack st st' ds st'.heap) { tmps := a.tmps, defers := dsC } w' :=
          ⟨hi.env, hi.glob.agree ha.agree (Dn_le ha.le), ha.sim, fun t ht v hv => by
            obtain ⟨h1, h2⟩ := hi.reads t ht v hv
            exact ⟨by rw [g_agree ha.agree v h2]; exact h1, okv_agree ha.agree (Dn_le ha.le) v h2⟩, hi.size, hi.dom, hdsok.agree ha.agree (Dn_le ha.le), hi.um.agree ha.agree (Dn_le ha.le)⟩
        cases e with
        | returned v =>
          obtain ⟨hmode, hv, fn2, hfn2, hres⟩ := hmatch
          have h3 : xLeave E call fn.results.toList fr n (defBack st st' ds st'.heap) (settleA st'.um) = some r := h2
          have hlast : step P (lone fr' (csAt ε' st'.um (c0 :: csAt ε st.um cs)) w') = .next (lone { b.atR { tmps := a.tmps, defers := dsC } todo with mode := modeOf ε' (settleA st'.um) } (csAt ε' st.um cs) w') := by
            rw [hc1, hcs', stepU_ret (fn := fn2) hmode hdef' hkind' (by rw [hfn']; exact hfn2) hres]
            rw [settle_mode ε' _ st'.um rfl]
          refine LeaveRes.trans (st' := defBack st st' ds st'.heap) ha (.head hfirst (hsteps.trans (.one hlast))) (ih _ _ r h3 ε' _ w' todo hinv ?_)
          cases hu : st'.um with
          | none => trivial
          | some ch =>
            rw [hu] at hchOk'
            cases ch with
            | nil => exact hchOk'
            | cons p l =>
              show chOk (Dn st'.next) ε' (bi p.recovered none (some (p :: l)))
              cases p.recovered with
              | true => trivial
              | false => exact hchOk'
        | panicked ch =>
          obtain ⟨hmode, hpok⟩ := hmatch
          have h3 : xLeave E call fn.results.toList fr n (defBack st st' ds st'.heap) (some (ch ++ st'.um.getD [])) = some r := h2
          have hlast : step P (lone fr' (csAt ε' st'.um (c0 :: csAt ε st.um cs)) w') = .next (lone { b.atR { tmps := a.tmps, defers := dsC } todo with mode := modeOf ε' (some (ch ++ st'.um.getD [])) } (csAt ε' st.um cs) w') := by
            rw [hc1, hcs', stepU_panic hmode hdef' (by rw [hfn']; exact hF2)]
            cases hu : st'.um with
            | none => simp [Frame.raise, modeOf]
            | some ch2 => simp [Frame.raise, modeOf]
          refine LeaveRes.trans (st' := defBack st st' ds st'.heap) ha (.head hfirst (hsteps.trans (.one hlast))) (ih _ _ r h3 ε' _ w' todo hinv ?_)
          show panOk (Dn st'.next) ε' (ch ++ st'.um.getD [])
          intro p hp
          rcases List.mem_append.1 hp with hp | hp
          · exact hpok p hp
          · cases hu : st'.um with
            | none => rw [hu] at hp; cases hp
            | some ch2 => rw [hu] at hp hchOk'; exact hchOk' p hp

end leave
end Go.Proofs.YtbcnedhhebjhdaaGreatDoor.Fa

/-
  Calls: functions, rounds of a range over a function; the evaluator as a whole.
-/
namespace Go.Proofs.YtbcnedhhebjhdaaGreatDoor.Fa

section lay
theorem layArgs_find (mask : Nat) : ∀ (as : List AV) (i : Nat) (t : Tr AV) (x : Nat) (v : AV), (layArgs mask as i t).find x = some v → (t.find x = some v) ∨ (bit mask x = true ∧ ∃ j, x = i + j ∧ as[j]? = some v)
  | [], _, _, _, _, h => .inl h
  | a :: as, i, t, x, v, h => by
    have h' : (layArgs mask as (i + 1) (bi (bit mask i) (t.set i (some a)) t)).find x = some v := h
    rcases layArgs_find mask as (i + 1) _ x v h' with h1 | ⟨h1, j, h2, h3⟩
    · rw [bi_eq] at h1
      split at h1
      · rename_i hb
        rw [Tr.find_set] at h1
        split at h1
        · rename_i he
          subst he
          injection h1 with h1
          subst h1
          exact .inr ⟨hb, 0, rfl, rfl⟩
        · exact .inl h1
      · exact .inl h1
    · exact .inr ⟨h1, j + 1, by omega, by simpa using h3⟩

/-- A round's parameters. -/
theorem setPs_ok {D : Nat → Prop} {ε : Env} (nt mask : Nat) : ∀ (ps : List Tmp) (as : List AV) (tm fr : Tr AV) (tmps : Array Value), setPs nt mask ps as tm = some fr → tmps.size = nt → FrRel D ε tm tmps → (∀ t v, tm.find t = some v → bit mask t = true) → (∀ x ∈ as, okv D ε x) →
    ps.length = as.length ∧ ((ps.zip (as.map (g ε))).foldl (fun tmps x => tmps.setIfInBounds x.1 x.2) tmps).size = nt ∧ FrRel D ε fr ((ps.zip (as.map (g ε))).foldl (fun tmps x => tmps.setIfInBounds x.1 x.2) tmps) ∧ (∀ t v, fr.find t = some v → bit mask t = true)
  | [], as, tm, fr, tmps, h, hs, hf, hm, _ => by
    cases as with
    | nil =>
      have h' : some tm = some fr := h
      injection h' with h'
      subst h'
      exact ⟨rfl, hs, hf, hm⟩
    | cons a as => cases h
  | p :: ps, as, tm, fr, tmps, h, hs, hf, hm, ha => by
    cases as with
    | nil => cases h
    | cons a as =>
      have h' : bi (Nat.blt p nt) (setPs nt mask ps as (bi (bit mask p) (tm.set p (some a)) tm)) none = some fr := h
      rw [bi_eq] at h'
      split at h'
      · rename_i hlt
        have hlt' : p < tmps.size := by rw [hs]; simpa [Nat.blt_eq] using hlt
        have haok := ha a List.mem_cons_self
        have hf' : FrRel D ε (bi (bit mask p) (tm.set p (some a)) tm) (tmps.setIfInBounds p (g ε a)) := fun t v hv => by
          rw [getD_set hlt']
          rw [bi_eq] at hv
          split at hv
          · rw [Tr.find_set] at hv
            split at hv
            · rename_i he; rw [if_pos he]; injection hv with hv; subst hv; exact ⟨rfl, haok⟩
            · rename_i he; rw [if_neg he]; exact hf t v hv
          · rename_i hb
            have hne : ¬ p = t := fun he => by subst he; exact hb (hm p v hv)
            rw [if_neg hne]
            exact hf t v hv
        have hm' : ∀ t v, (bi (bit mask p) (tm.set p (some a)) tm).find t = some v → bit mask t = true := fun t v hv => by
          rw [bi_eq] at hv
          split at hv
          · rename_i hb
            rw [Tr.find_set] at hv
            split at hv
            · rename_i he; subst he; exact hb
            · exact hm t v hv
          · exact hm t v hv
        obtain ⟨h1, h2⟩ := setPs_ok nt mask ps as _ fr (tmps.setIfInBounds p (g ε a)) h' (by simp [hs]) hf' hm' fun x hx => ha x (List.mem_cons_of_mem _ hx)
        exact ⟨by simp [h1], h2⟩
      · cases h'
end lay

section calls
variable {P : Program} {E : Env0}

theorem um_normal {D : Nat → Prop} {ε : Env} {cs : List Frame} {um : Option (List APan)} (h : UmOk D ε .normal cs um) : um = none := by
  cases um with
  | none => rfl
  | some ch => cases h.1

theorem cFun_inv {f : FuncId} {F0 : CFun} (h : cFun E f = some F0) : ∃ F c, E.fn.find f = some F ∧ F.body = some c ∧ F0 = { code := c, nt := F.ntmps, mask := maskOf F c, rs := F.results.toList } := by
  unfold cFun at h
  rw [ob_eq_some] at h
  obtain ⟨F, h1, h⟩ := h
  rw [ob_eq_some] at h
  obtain ⟨c, h2, h⟩ := h
  injection h with h
  exact ⟨F, c, h1, h2, h.symm⟩

/-- A piece of code, from some state, comes to a result. -/
def Runs (P : Program) (E : Env0) (nt mask : Nat) (b : Frame) (cs : List Frame) (c : Code) (fr : Tr AV) (st : St) (r : CO) : Prop :=
  ∀ ε a w k, Inv P E nt mask b cs ε .nil fr st a w → COSound P E nt mask b cs k ε st w (lone (b.atR a (.code c :: k)) (csAt ε st.um cs) w) r

/-- A function's call, by what its code comes to. -/
theorem func_of_runs (hE : EnvOk P E) {call : CallF} (hfs : FuncSound P call) {f : FuncId} {F : Func} {c : Code} (hfind : E.fn.find f = some F) (hbody : F.body = some c) {as : List AV} (hle : as.length ≤ F.ntmps) {st : St} {r0 : CO} {r : AEnd × St}
    (hruns : ∀ b cs, b.fn = f → b.roundOf = none → Runs P E F.ntmps (maskOf F c) b cs c (layArgs (maskOf F c) as 0 .nil) st r0) (h : leaveBy E call F.results.toList r0 = some r) (hd : st.defers = [])
    {ε : Env} {w : World} {kind : CallKind} {cs : List Frame} (hg : GlobOk (Dn st.next) ε) (hs : Sim (Dn st.next) ε st.heap.find w) (has : ∀ x ∈ as, okv (Dn st.next) ε x) (hum : UmOk (Dn st.next) ε kind cs st.um) :
    (∃ F, P.funcs[f]? = some F ∧ F.body.isSome = true) ∧ LeaveRes P f kind cs ε st w (lone (Frame.enter P f (as.map (g ε)).toArray kind) (csAt ε st.um cs) w) r := by
  have hF := hE.fn f F hfind
  refine ⟨⟨F, hF, by rw [hbody]; rfl⟩, ?_⟩
  obtain ⟨b, hb⟩ : ∃ b : Frame, b = Frame.enter P f (as.map (g ε)).toArray kind := ⟨_, rfl⟩
  have hbf : b.fn = f := by rw [hb]; rfl
  have hbk : b.kind = kind := by rw [hb]; rfl
  have hbr : b.roundOf = none := by rw [hb]; rfl
  have hbt : b.tmps = (as.map (g ε)).toArray ++ Array.replicate (F.ntmps - as.length) undef := by rw [hb]; simp [Frame.enter, hF]
  have hbe : b = b.atR { tmps := b.tmps, defers := [] } [.code c] := by
    rw [hb]
    simp [Frame.enter, Frame.atR, hF, hbody]
  have hinv : Inv P E F.ntmps (maskOf F c) b cs ε .nil (layArgs (maskOf F c) as 0 .nil) st { tmps := b.tmps, defers := [] } w := by
    refine ⟨hE, hg, hs, fun t _ v hv => ?_, ?_, fun t v hv => ?_, by rw [hd]; rfl, by rw [hbk]; exact hum⟩
    · rw [Lc.get_nil] at hv
      rcases layArgs_find (maskOf F c) as 0 .nil t v hv with h1 | ⟨_, j, h2, h3⟩
      · cases h1
      · have ht : t = j := by omega
        subst ht
        refine ⟨?_, has v (List.mem_of_getElem? h3)⟩
        show b.tmps.getD t undef = _
        rw [hbt, Array.getD_eq_getD_getElem?, Array.getElem?_append]
        have hlt : t < as.length := by
          rcases Nat.lt_or_ge t as.length with h | h
          · exact h
          · rw [List.getElem?_eq_none h] at h3; cases h3
        rw [if_pos (by simpa using hlt)]
        simp [h3]
    · show b.tmps.size = _
      rw [hbt]
      simp
      omega
    · rcases layArgs_find (maskOf F c) as 0 .nil t v hv with h1 | ⟨h1, _⟩
      · cases h1
      · exact h1
  rw [← hb]
  have hm : ∃ m, m = lone b (csAt ε st.um cs) w := ⟨_, rfl⟩
  obtain ⟨m, hm⟩ := hm
  rw [← hm]
  have hcode' : COSound P E F.ntmps (maskOf F c) b cs [] ε st w m r0 := by
    have e : lone b (csAt ε st.um cs) w = lone (b.atR { tmps := b.tmps, defers := [] } [.code c]) (csAt ε st.um cs) w := by rw [← hbe]
    rw [hm, e]
    exact hruns b cs hbf hbr ε _ w [] hinv
  have hbF : P.funcs[b.fn]? = some F := by rw [hbf]; exact hF
  have hfin : ∀ {st' : St} {fr' : Tr AV} {ε' : Env} {a' : Act} {w' : World} {chain : Option (List APan)} {todo : List Item}, After ε st.heap st.next w ε' st'.heap st'.next w' → Inv P E F.ntmps (maskOf F c) b cs ε' .nil fr' st' a' w' → chOk (Dn st'.next) ε' chain →
      Steps P m (lone { b.atR a' todo with mode := modeOf ε' chain } (csAt ε' st'.um cs) w') → xLeave E call F.results.toList fr' 50 st' chain = some r → LeaveRes P f kind cs ε st w m r := by
    intro st' fr' ε' a' w' chain todo ha hi hc hst hx
    have h3 := xLeave_ok hfs hbF 50 _ _ r hx _ _ _ todo hi hc
    rw [hbf, hbk] at h3
    exact LeaveRes.trans (st' := st') ha hst h3
  cases r0 with
  | fail => cases h
  | exit i fr' st' => cases h
  | goto i fr' st' => cases h
  | normal fr' st' =>
    obtain ⟨ε', a', w', h1, h2, h3⟩ := hcode'
    exact hfin (chain := none) h2 h1 trivial (h3.trans (.one (stepR_end hbr))) h
  | ret fr' st' =>
    obtain ⟨ε', a', w', kk, h1, h2, h3⟩ := hcode'
    exact hfin (chain := none) h2 h1 trivial (h3.trans (.one (stepR_ret hbr))) h
  | panic ch fr' st' =>
    obtain ⟨ε', a', w', todo, h1, h2, h3, h4⟩ := hcode'
    exact hfin (chain := some ch) h2 h1 h3 h4 h

/-- A function's code is sound. -/
theorem func_all (hmix : P.follows .mixedOrders = true) {call : CallF} (hcs : CallSound P call) {f : FuncId} {nt mask : Nat} {b : Frame} {cs : List Frame} (hbf : b.fn = f) (hbr : b.roundOf = none) (c : Code) :
    CodeSound P E nt mask b cs (xCode E nt mask c { rx := { call := call, rd := false }, go := goN E nt mask { call := call, rd := false } f 9, fn := f }) c :=
  codeSound hmix (cx := { rx := { call := call, rd := false }, go := goN E nt mask { call := call, rd := false } f 9, fn := f }) hcs (by rw [hbr]; rfl) hbf.symm (by rw [← hbf]; exact goSound hmix hcs (by rw [hbr]; rfl) 9) c

/-- A function's call. -/
theorem xFunc_ok (hmix : P.follows .mixedOrders = true) (hE : EnvOk P E) {call : CallF} (hcs : CallSound P call) (hfs : FuncSound P call) {f : FuncId} {as : List AV} {st : St} {r : AEnd × St} (h : xFunc E call f as st = some r) (hd : st.defers = [])
    {ε : Env} {w : World} {kind : CallKind} {cs : List Frame} (hg : GlobOk (Dn st.next) ε) (hs : Sim (Dn st.next) ε st.heap.find w) (has : ∀ x ∈ as, okv (Dn st.next) ε x) (hum : UmOk (Dn st.next) ε kind cs st.um) :
    (∃ F, P.funcs[f]? = some F ∧ F.body.isSome = true) ∧ LeaveRes P f kind cs ε st w (lone (Frame.enter P f (as.map (g ε)).toArray kind) (csAt ε st.um cs) w) r := by
  unfold xFunc at h
  rw [ob_eq_some] at h
  obtain ⟨F0, hF0, h⟩ := h
  obtain ⟨F, c, hfind, hbody, rfl⟩ := cFun_inv hF0
  rw [bi_eq] at h
  split at h
  · rename_i hle
    have hle' : as.length ≤ F.ntmps := by
      have := Nat.le_of_ble_eq_true hle
      simpa using this
    exact func_of_runs hE hfs hfind hbody hle' (fun b cs hbf hbr ε a w k hi => func_all hmix hcs hbf hbr c ε _ _ a w k hi) h hd hg hs has hum
  · cases h

theorem run_yield (P : Program) {w : World} {l : Nat} {r : Loop} {args : Array Value} (h : w.heap[l]? = some (.loop r)) (hs : args.size = r.params.size) :
    (Instr.yield l args).run P w = .ok (.round l r.fn ((r.params.zip args).foldl (fun tmps x => tmps.setIfInBounds x.1 x.2) r.tmps) r.assign r.body) w := by
  simp [Instr.yield, Instr.getLoop, getObj, Sem.run_bind, Sem.run, h, hs, Result.andThen]

theorem run_beginRound (P : Program) {w : World} {l : Nat} {r : Loop} (h : w.heap[l]? = some (.loop r)) (hs : r.state = .ready) :
    (Instr.beginRound l).run P w = .ok () { w with heap := w.heap.setIfInBounds l (.loop { r with state := .busy }) } := by
  simp [Instr.beginRound, Instr.getLoop, getObj, setObj, Sem.run_bind, Sem.run, h, hs, Result.andThen]

theorem run_endRound (P : Program) {w : World} {l : Nat} {r : Loop} (jump : Option Code) (h : w.heap[l]? = some (.loop r)) :
    (Instr.endRound l jump).run P w = .ok (.bool jump.isNone) { w with heap := w.heap.setIfInBounds l (.loop { r with state := if jump.isNone then .ready else .done, pending := jump }) } := by
  simp [Instr.endRound, Instr.getLoop, getObj, setObj, Sem.run_bind, Sem.run, h, Result.andThen]

/-- The round's end. -/
theorem endRound_ok {nt mask : Nat} {b : Frame} {cs : List Frame} {ε : Env} {fr : Tr AV} {st : St} {a : Act} {w : World} {l : Nat} {jump : Option Code} {r : AEnd × St} (hi : Inv P E nt mask b cs ε .nil fr st a w) (h : Fa.endRound st l jump = some r) :
    ∃ w', (Instr.endRound (ε.blk l) jump).run P w = .ok (.bool jump.isNone) w' ∧ After ε st.heap st.next w ε r.2.heap r.2.next w' ∧ r.1 = .returned (.bool jump.isNone) ∧ r.2.um = st.um := by
  unfold Fa.endRound at h
  rw [ob_eq_some] at h
  obtain ⟨bl, hbl, h⟩ := h
  cases bl with
  | loop s pend f tm nt' mask' ps x y =>
    obtain ⟨obj, hobj, hbok⟩ := hi.sim.obj l _ hbl
    obtain ⟨tmps, ds, hx, hn, hfr, hm⟩ := hbok
    subst hx
    cases jump with
    | none =>
      have h' : some (AEnd.returned (.bool true), putHeap st (st.heap.set l (some (.loop 0 none f tm nt' mask' ps x y)))) = some r := h
      injection h' with h'
      subst h'
      exact ⟨_, run_endRound P none hobj, After.put hi.sim hbl rfl ⟨tmps, ds, rfl, hn, hfr, hm⟩ rfl ⟨rfl, rfl, rfl⟩, rfl, rfl⟩
    | some c =>
      have h' : some (AEnd.returned (.bool false), putHeap st (st.heap.set l (some (.loop 2 (some c) f tm nt' mask' ps x y)))) = some r := h
      injection h' with h'
      subst h'
      exact ⟨_, run_endRound P (some c) hobj, After.put hi.sim hbl rfl ⟨tmps, ds, rfl, hn, hfr, hm⟩ rfl ⟨rfl, rfl, rfl⟩, rfl, rfl⟩
  | _ => cases h

/-- A call of a round. -/
theorem xYield_ok (hmix : P.follows .mixedOrders = true) (hE : EnvOk P E) {call : CallF} (hcs : CallSound P call) {l : Nat} {as : List AV} {st : St} {r : AEnd × St} (h : xYield E call l as st = some r) (hum0 : st.um = none) (hd : st.defers = [])
    {ε : Env} {w : World} (hg : GlobOk (Dn st.next) ε) (hs : Sim (Dn st.next) ε st.heap.find w) (hok : callOk (Dn st.next) ε (.yield l as)) :
    ∃ fr0, Begins P ε w (.yield l as) fr0 ∧ ∀ caller cs, CallRes P ε w fr0 caller cs st r := by
  unfold xYield at h
  rw [ob_eq_some] at h
  obtain ⟨bl, hbl, h⟩ := h
  cases bl with
  | loop s pend f tm nt mask ps x y =>
    have h1 : ob (cFun E f) (fun F => bi (andb (Nat.beq nt F.nt) (Nat.beq mask F.mask)) (ob (setPs nt mask ps as tm) fun fr => roundEnd l (onlyN (xCode E F.nt F.mask x (roundCx E call f F) fr st) (beginRound l (roundCx E call f F) (xCode E F.nt F.mask y)))) none) = some r := h
    rw [ob_eq_some] at h1
    obtain ⟨F, hF, h1⟩ := h1
    rw [bi_eq] at h1
    split at h1
    · rename_i hnm
      simp only [andb_eq, Bool.and_eq_true] at hnm
      have hnt : nt = F.nt := Nat.eq_of_beq_eq_true hnm.1
      have hmask : mask = F.mask := Nat.eq_of_beq_eq_true hnm.2
      subst hnt
      subst hmask
      rw [ob_eq_some] at h1
      obtain ⟨fr, hfr, h1⟩ := h1
      obtain ⟨obj, hobj, hbok⟩ := hs.obj l _ hbl
      obtain ⟨tmps, ds, hx, hn, hfrel, hm⟩ := hbok
      subst hx
      obtain ⟨hlen, hsz, hfrel', hm'⟩ := setPs_ok F.nt F.mask ps as tm fr tmps hfr hn hfrel hm hok.2
      have hyield := run_yield P (args := (as.map (g ε)).toArray) hobj (by simp [hlen])
      have hfold : ((ps.toArray.zip (as.map (g ε)).toArray).foldl (fun tmps x => tmps.setIfInBounds x.1 x.2) tmps) = ((ps.zip (as.map (g ε))).foldl (fun tmps x => tmps.setIfInBounds x.1 x.2) tmps) := by
        simp
      simp only at hyield
      rw [hfold] at hyield
      refine ⟨_, ⟨f, _, x, y, hyield, rfl⟩, fun caller cs => ?_⟩
      generalize htm : (ps.zip (as.map (g ε))).foldl (fun tmps x => tmps.setIfInBounds x.1 x.2) tmps = tmps0 at hsz hfrel'
      obtain ⟨b, hb⟩ : ∃ b : Frame, b = Frame.round (ε.blk l) f tmps0 x y .normal := ⟨_, rfl⟩
      have hbf : b.fn = f := by rw [hb]; rfl
      have hbk : b.kind = .normal := by rw [hb]; rfl
      have hbr : b.roundOf = some (ε.blk l) := by rw [hb]; rfl
      have hbe : b = b.atR { tmps := tmps0, defers := [] } [.code x, .beginRound, .code y] := by rw [hb]; rfl
      have hinv : Inv P E F.nt F.mask b (caller :: cs) ε .nil fr st { tmps := tmps0, defers := [] } w :=
        ⟨hE, hg, hs, fun t _ v hv => hfrel' t v hv, hsz, hm', by rw [hd]; rfl, by rw [hum0, hbk]; exact .inl rfl⟩
      have hrd : (roundCx E call f F).rx.rd = b.roundOf.isSome := by rw [hbr]; rfl
      have hgo : ∀ c, CodeSound P E F.nt F.mask b (caller :: cs) ((roundCx E call f F).go c) c := by
        intro c
        have := goSound (P := P) (E := E) (nt := F.nt) (mask := F.mask) (b := b) (cs := caller :: cs) hmix (rx := { call := call, rd := true }) hcs hrd 9 c
        rw [hbf] at this
        exact this
      have hcode : ∀ c, CodeSound P E F.nt F.mask b (caller :: cs) (xCode E F.nt F.mask c (roundCx E call f F)) c := fun c => codeSound hmix (cx := roundCx E call f F) hcs hrd hbf.symm hgo c
      have hcs0 : ∀ (ε' : Env) (um : Option (List APan)), UmOk (fun _ => True) ε' b.kind (caller :: cs) um → csAt ε' um (caller :: cs) = caller :: cs := fun ε' um hu => by
        rw [hbk] at hu
        rw [um_normal hu]
        rfl
      have humn : ∀ {ε' : Env} {fr' : Tr AV} {st' : St} {a' : Act} {w' : World}, Inv P E F.nt F.mask b (caller :: cs) ε' .nil fr' st' a' w' → st'.um = none := fun hi => by
        have := hi.um
        rw [hbk] at this
        exact um_normal this
      -- the parameters' code
      have hA := hcode x ε fr st { tmps := tmps0, defers := [] } w [.beginRound, .code y] hinv
      cases hra : xCode E F.nt F.mask x (roundCx E call f F) fr st with
      | normal fr1 st1 =>
        rw [hra] at h1 hA
        obtain ⟨ε1, a1, w1, hi1, ha1, hs1⟩ := hA
        have h2 : roundEnd l (beginRound l (roundCx E call f F) (xCode E F.nt F.mask y) fr1 st1) = some r := h1
        -- the round begins
        cases hf1 : st1.heap.find l with
        | none =>
          have : beginRound l (roundCx E call f F) (xCode E F.nt F.mask y) fr1 st1 = .fail := by unfold beginRound; rw [hf1]; rfl
          rw [this] at h2
          cases h2
        | some bl1 =>
          cases bl1 with
          | loop s1 pend1 f1 tm1 nt1 mask1 ps1 x1 y1 =>
            have hbr1 : beginRound l (roundCx E call f F) (xCode E F.nt F.mask y) fr1 st1 = bi (Nat.beq s1 0) (xCode E F.nt F.mask y (roundCx E call f F) fr1 (putHeap st1 (st1.heap.set l (some (.loop 1 pend1 f1 tm1 nt1 mask1 ps1 x1 y1))))) .fail := by
              unfold beginRound
              rw [hf1]
              rfl
            rw [hbr1, bi_eq] at h2
            split at h2
            · rename_i hs10
              have hs10' := Nat.eq_of_beq_eq_true hs10
              subst hs10'
              obtain ⟨obj1, hobj1, hbok1⟩ := hi1.sim.obj l _ hf1
              obtain ⟨tmps1, ds1, hx1, hn1, hfrel1, hm1⟩ := hbok1
              subst hx1
              have hblk1 : ε1.blk l = ε.blk l := (ha1.agree l hok.1).1
              have hbegin := run_beginRound P hobj1 rfl
              have ha2 : After ε1 st1.heap st1.next w1 ε1 (st1.heap.set l (some (.loop 1 pend1 f1 tm1 nt1 mask1 ps1 x1 y1))) st1.next { w1 with heap := w1.heap.setIfInBounds (ε1.blk l) (.loop { state := .busy, pending := pend1, fn := f1, tmps := tmps1, params := ps1.toArray, assign := x1, body := y1, defers := ds1 }) } :=
                After.put hi1.sim hf1 rfl (o := .loop { state := .busy, pending := pend1, fn := f1, tmps := tmps1, params := ps1.toArray, assign := x1, body := y1, defers := ds1 }) ⟨tmps1, ds1, rfl, hn1, hfrel1, hm1⟩ rfl ⟨rfl, rfl, rfl⟩
              have hi2 : Inv P E F.nt F.mask b (caller :: cs) ε1 .nil fr1 (putHeap st1 (st1.heap.set l (some (.loop 1 pend1 f1 tm1 nt1 mask1 ps1 x1 y1)))) a1 { w1 with heap := w1.heap.setIfInBounds (ε1.blk l) (.loop { state := .busy, pending := pend1, fn := f1, tmps := tmps1, params := ps1.toArray, assign := x1, body := y1, defers := ds1 }) } :=
                ⟨hi1.env, hi1.glob, ha2.sim, hi1.reads, hi1.size, hi1.dom, hi1.defs, hi1.um⟩
              have hB := hcode y ε1 fr1 _ a1 _ [] hi2
              have hst0 : csAt ε st.um (caller :: cs) = caller :: cs := by rw [hum0]; rfl
              have hst1 : csAt ε1 st1.um (caller :: cs) = caller :: cs := by rw [humn hi1]; rfl
              have hup : Steps P (lone (Frame.round (ε.blk l) f tmps0 x y .normal) (caller :: cs) w) (lone (b.atR a1 [.code y]) (csAt ε1 (putHeap st1 (st1.heap.set l (some (.loop 1 pend1 f1 tm1 nt1 mask1 ps1 x1 y1)))).um (caller :: cs))
                  { w1 with heap := w1.heap.setIfInBounds (ε1.blk l) (.loop { state := .busy, pending := pend1, fn := f1, tmps := tmps1, params := ps1.toArray, assign := x1, body := y1, defers := ds1 }) }) := by
                have e : lone b (caller :: cs) w = lone (b.atR { tmps := tmps0, defers := [] } [.code x, .beginRound, .code y]) (caller :: cs) w := by rw [← hbe]
                rw [← hb, e]
                rw [hst0] at hs1
                refine hs1.trans (.one ?_)
                exact stepR_beginRound (l := ε.blk l) hbr (by rw [hblk1] at hbegin; rw [hblk1]; exact hbegin)
              have hafter := ha1.trans ha2
              -- the round's end
              have hfin : ∀ {ε' : Env} {fr' : Tr AV} {st' : St} {a' : Act} {w' : World} {todo : List Item} (jump : Option Code), Inv P E F.nt F.mask b (caller :: cs) ε' .nil fr' st' a' w' →
                  After ε1 (putHeap st1 (st1.heap.set l (some (.loop 1 pend1 f1 tm1 nt1 mask1 ps1 x1 y1)))).heap (putHeap st1 (st1.heap.set l (some (.loop 1 pend1 f1 tm1 nt1 mask1 ps1 x1 y1)))).next { w1 with heap := w1.heap.setIfInBounds (ε1.blk l) (.loop { state := .busy, pending := pend1, fn := f1, tmps := tmps1, params := ps1.toArray, assign := x1, body := y1, defers := ds1 }) } ε' st'.heap st'.next w' →
                  Steps P (lone (b.atR a1 [.code y]) (csAt ε1 (putHeap st1 (st1.heap.set l (some (.loop 1 pend1 f1 tm1 nt1 mask1 ps1 x1 y1)))).um (caller :: cs)) { w1 with heap := w1.heap.setIfInBounds (ε1.blk l) (.loop { state := .busy, pending := pend1, fn := f1, tmps := tmps1, params := ps1.toArray, assign := x1, body := y1, defers := ds1 }) }) (lone (b.atR a' todo) (csAt ε' st'.um (caller :: cs)) w') →
                  (∀ w2 v, (Instr.endRound (ε.blk l) jump).run P w' = .ok v w2 → step P (lone (b.atR a' todo) (caller :: cs) w') = .next (lone (caller.finish v) cs w2)) →
                  Fa.endRound st' l jump = some r → CallRes P ε w (Frame.round (ε.blk l) f tmps0 x y .normal) caller cs st r := by
                intro ε' fr' st' a' w' todo jump hi' ha' hs' hstep hr
                obtain ⟨w2, he1, he2, he3, he4⟩ := endRound_ok hi' hr
                have hblk' := (((hafter.trans ha').agree l hok.1)).1
                rw [hblk'] at he1
                have hall := (hafter.trans ha').trans he2
                refine ⟨ε', w2, hall, ?_⟩
                rw [he3]
                refine ⟨by simp [okv], ?_⟩
                have hst' : csAt ε' st'.um (caller :: cs) = caller :: cs := by rw [humn hi']; rfl
                rw [hst'] at hs'
                have := hstep w2 _ he1
                exact (hup.trans hs').trans (.one (by simpa [g] using this))
              cases hrb : xCode E F.nt F.mask y (roundCx E call f F) fr1 (putHeap st1 (st1.heap.set l (some (.loop 1 pend1 f1 tm1 nt1 mask1 ps1 x1 y1)))) with
              | fail => rw [hrb] at h2; cases h2
              | panic ch fr2 st2 => rw [hrb] at h2; cases h2
              | normal fr2 st2 =>
                rw [hrb] at h2 hB
                obtain ⟨ε2, a2, w2, hi3, ha3, hs3⟩ := hB
                exact hfin none hi3 ha3 hs3 (fun w2 v hv => stepR_round_end hbr hbk hv) h2
              | exit i fr2 st2 =>
                rw [hrb] at h2 hB
                obtain ⟨ε2, a2, w2, kk, hi3, ha3, hk, hs3⟩ := hB
                exact hfin (some (.exit i)) hi3 ha3 hs3 (fun w2 v hv => stepR_round_exit hbr hbk hk hv) h2
              | goto i fr2 st2 =>
                rw [hrb] at h2 hB
                obtain ⟨ε2, a2, w2, kk, hi3, ha3, hk, hs3⟩ := hB
                exact hfin (some (.goto i)) hi3 ha3 hs3 (fun w2 v hv => stepR_round_goto hbr hbk hk hv) h2
              | ret fr2 st2 =>
                rw [hrb] at h2 hB
                obtain ⟨ε2, a2, w2, kk, hi3, ha3, hs3⟩ := hB
                exact hfin (some .ret) hi3 ha3 hs3 (fun w2 v hv => stepR_round_ret hbr hbk hv) h2
            · cases h2
          | _ =>
            have : beginRound l (roundCx E call f F) (xCode E F.nt F.mask y) fr1 st1 = .fail := by unfold beginRound; rw [hf1]; rfl
            rw [this] at h2
            cases h2
      | _ => rw [hra] at h1; cases h1
    · cases h1
  | _ => cases h

/-- A call, by a frame that is running. -/
theorem callSound_of {call : CallF} (hfs : FuncSound P call) (hys : ∀ l as st r, call (.yield l as) st = some r → st.um = none → st.defers = [] → ∀ ε w, GlobOk (Dn st.next) ε → Sim (Dn st.next) ε st.heap.find w → callOk (Dn st.next) ε (.yield l as) →
    ∃ fr0, Begins P ε w (.yield l as) fr0 ∧ ∀ caller cs, CallRes P ε w fr0 caller cs st r) : CallSound P call := by
  intro c st r h hu hd ε w hg hs hok
  cases c with
  | yield l as => exact hys l as st r h hu hd ε w hg hs hok
  | func f as =>
    obtain ⟨hF, _⟩ := hfs f as st r h hd ε w .normal [] hg hs hok (by rw [hu]; exact .inl rfl)
    refine ⟨_, ⟨rfl, hF⟩, fun caller cs => ?_⟩
    obtain ⟨_, ε', w', fr', ha, hum, hst, hfn, hdef, hk, hm⟩ := hfs f as st r h hd ε w .normal (caller :: cs) hg hs hok (by rw [hu]; exact .inl rfl)
    have hum' := um_normal hum
    rw [hu, hum'] at hst
    have hst' : Steps P (lone (Frame.enter P f (as.map (g ε)).toArray .normal) (caller :: cs) w) (lone fr' (caller :: cs) w') := hst
    obtain ⟨F, hF, _⟩ := hF
    refine ⟨ε', w', ha, ?_⟩
    obtain ⟨e, st'⟩ := r
    cases e with
    | returned v =>
      obtain ⟨hmode, hv, fn, hfn', hres⟩ := hm
      exact ⟨hv, hst'.trans (.one (stepU_retN hmode hdef hk (by rw [hfn]; exact hfn') hres))⟩
    | panicked ch =>
      obtain ⟨hmode, hp⟩ := hm
      exact ⟨hp, hst'.trans (.one (stepU_panic hmode hdef (by rw [hfn]; exact hF)))⟩

/-- The evaluator. -/
theorem run_ok (hmix : P.follows .mixedOrders = true) (hE : EnvOk P E) : ∀ n, FuncSound P (Fa.run E n) ∧ CallSound P (Fa.run E n)
  | 0 => ⟨fun _ _ _ _ h => (by cases h), fun c st r h => (by cases h)⟩
  | n + 1 => by
    obtain ⟨hfs, hcs⟩ := run_ok hmix hE n
    have hfs' : FuncSound P (Fa.run E (n + 1)) := fun f as st r h hd ε w kind cs hg hs has hum => xFunc_ok hmix hE hcs hfs h hd hg hs has hum
    exact ⟨hfs', callSound_of hfs' fun l as st r h hu hd ε w hg hs hok => xYield_ok hmix hE hcs h hu hd hg hs hok⟩

end calls
end Go.Proofs.YtbcnedhhebjhdaaGreatDoor.Fa

/-
  The evaluator's tables, out of a program.
-/
namespace Go.Proofs.YtbcnedhhebjhdaaGreatDoor.Fa

/-- Each struct's fields have types of the table. -/
def fieldsIn (P : Program) : Bool := P.types.toList.all fun i => match i.desc with
  | .struct fs => fs.toList.all fun f => decide (f.type < P.types.size)
  | _ => true
/-- No function that has a body is the one that counts goroutines. -/
def numsOut (P : Program) : Bool := P.funcs.toList.all fun F => !(F.body.isSome && F.name == "runtime.NumGoroutine")

theorem info_lt {P : Program} {t : TypeId} {i : TypeInfo} (h : P.types.toList[t]? = some i) : P.info? t = some i := by
  have hlt : t < P.types.size := by
    rcases Nat.lt_or_ge t P.types.size with h' | h'
    · exact h'
    · rw [List.getElem?_eq_none (by simpa using h')] at h; cases h
  show (if t < P.types.size then P.types[t]? else _) = _
  rw [if_pos hlt, ← Array.getElem?_toList]
  exact h

theorem envOf_ok {P : Program} (hf : fieldsIn P = true) (hn : numsOut P = true) : EnvOk P (envOf P) where
  ty t i h := info_lt (Tr.find_ofList 20 _ t i h)
  fn f F h := by
    have := Tr.find_ofList 20 _ f F h
    rw [Array.getElem?_toList] at this
    exact this
  stood _ := rfl
  guarded _ := rfl
  nums f F h hb := by
    unfold numsOut at hn
    rw [List.all_eq_true] at hn
    have hm : F ∈ P.funcs.toList := List.mem_of_getElem? (by rw [Array.getElem?_toList]; exact h)
    have := hn F hm
    rw [hb] at this
    simpa using this
  fields t i h fs hu f hfm := by
    unfold Env0.type at h
    rw [ob_eq_some] at h
    obtain ⟨x, hx, h⟩ := h
    have hx' := Tr.find_ofList 20 _ t x hx
    have hix := info_lt hx'
    -- the table's row
    have hrow : ∃ (u : Nat) (j : TypeInfo), P.types.toList[u]? = some j ∧ j.desc = .struct fs := by
      unfold Program.underlying at hu
      rw [hix] at hu
      unfold tyFrom at h
      obtain ⟨xd, xs, xb, xp, xa, xf, xz, xc, xm⟩ := x
      cases xd with
      | named nm u =>
        have h' : ob ((envOf P).ty.find u) (fun j => some (mkTy (envOf P) t _ j.desc)) = some i := h
        rw [ob_eq_some] at h'
        obtain ⟨j, hj, _⟩ := h'
        have hj' := Tr.find_ofList 20 _ u j hj
        have hu' : (P.info? u).map (·.desc) = some (.struct fs) := hu
        rw [info_lt hj'] at hu'
        injection hu' with hu'
        exact ⟨u, j, hj', hu'⟩
      | _ =>
        refine ⟨t, _, hx', ?_⟩
        injection hu with hu
    obtain ⟨u, j, hj, hd⟩ := hrow
    unfold fieldsIn at hf
    rw [List.all_eq_true] at hf
    have := hf j (List.mem_of_getElem? hj)
    rw [hd] at this
    simp only at this
    rw [List.all_eq_true] at this
    have hlt := this f hfm
    simp only [decide_eq_true_eq] at hlt
    have hg : P.types.toList[f.type]? = some P.types[f.type] := by rw [Array.getElem?_toList]; exact Array.getElem?_eq_getElem hlt
    exact ⟨_, info_lt hg⟩

end Go.Proofs.YtbcnedhhebjhdaaGreatDoor.Fa

/-
  A run cut into pieces: less is said between two pieces than is known; a function whose contract stands is not gone through again.
-/
namespace Go.Proofs.YtbcnedhhebjhdaaGreatDoor.Fa
noncomputable section

/-! ### Less said -/
def sameO (a b : Option (Nat × Nat)) : Bool := match a, b with
  | none, none => true
  | some x, some y => andb (Nat.beq x.1 y.1) (Nat.beq x.2 y.2)
  | _, _ => false
def sameB (a b : ABlk) : Bool := match a, b with
  | .cells c r o s, .cells d q p t => andb (andb (all2 (sameV 9) c d) (all2 (sameV 9) r q)) (andb (sameO o p) (eqb s t))
  | .ro c, .ro d => all2 (sameV 9) c d
  | _, _ => false

def subFr (fr : Tr AV) (l : List (Nat × AV)) : Bool := List.rec (motive := fun _ => Bool) true (fun x _ ih => Option.rec (motive := fun _ => Bool) false (fun v => bi (sameV 9 v x.2) ih false) (fr.find x.1)) l
def subHp (h : Heap) (l : List (Nat × ABlk)) : Bool := List.rec (motive := fun _ => Bool) true (fun x _ ih => Option.rec (motive := fun _ => Bool) false (fun v => bi (sameB v x.2) ih false) (h.find x.1)) l
def ofL {α : Type} (l : List (Nat × α)) : Tr α := List.rec (motive := fun _ => Tr α) .nil (fun x _ ih => ih.set x.1 (some x.2)) l
def stL (l : List (Nat × ABlk)) (n : Nat) : St := { heap := ofL l, next := n, um := none, defers := [] }

def chkN (r : CO) (fl : List (Nat × AV)) (hl : List (Nat × ABlk)) (n : Nat) : Bool := CO.casesOn (motive := fun _ => Bool) r false
  (fun fr st => andb (Nat.beq st.next n) (andb (subFr fr fl) (andb (subHp st.heap hl) (andb st.um.isNone (isNilL st.defers))))) (fun _ _ _ => false) (fun _ _ _ => false) (fun _ _ => false) (fun _ _ _ => false)
end

theorem sameB_eq {a b : ABlk} (h : sameB a b = true) : a = b := by
  unfold sameB at h
  split at h
  · simp only [andb_eq, eqb_eq, Bool.and_eq_true, beq_iff_eq] at h
    obtain ⟨⟨h1, h2⟩, h3, h4⟩ := h
    rename_i o s _ _ p t
    have : o = p := by
      unfold sameO at h3
      split at h3
      · rfl
      · rename_i x y
        simp only [andb_eq, Bool.and_eq_true] at h3
        obtain ⟨x1, x2⟩ := x
        obtain ⟨y1, y2⟩ := y
        have e1 : x1 = y1 := Nat.eq_of_beq_eq_true h3.1
        have e2 : x2 = y2 := Nat.eq_of_beq_eq_true h3.2
        rw [e1, e2]
      · cases h3
    rw [all2_eq (sameV_eq 9) h1, all2_eq (sameV_eq 9) h2, this, h4]
  · rw [all2_eq (sameV_eq 9) h]
  · cases h

theorem subFr_mem {fr : Tr AV} : ∀ {l : List (Nat × AV)}, subFr fr l = true → ∀ x ∈ l, fr.find x.1 = some x.2
  | [], _, x, hx => by cases hx
  | y :: l, h, x, hx => by
    have h' : (Option.rec (motive := fun _ => Bool) false (fun v => bi (sameV 9 v y.2) (subFr fr l) false) (fr.find y.1) : Bool) = true := h
    cases hf : fr.find y.1 with
    | none => rw [hf] at h'; cases h'
    | some v =>
      rw [hf] at h'
      have h2 : bi (sameV 9 v y.2) (subFr fr l) false = true := h'
      rw [bi_eq] at h2
      split at h2
      · rename_i hs
        rcases List.mem_cons.1 hx with hx | hx
        · subst hx; rw [hf, sameV_eq 9 v _ hs]
        · exact subFr_mem h2 x hx
      · cases h2
theorem subHp_mem {h : Heap} : ∀ {l : List (Nat × ABlk)}, subHp h l = true → ∀ x ∈ l, h.find x.1 = some x.2
  | [], _, x, hx => by cases hx
  | y :: l, hh, x, hx => by
    have h' : (Option.rec (motive := fun _ => Bool) false (fun v => bi (sameB v y.2) (subHp h l) false) (h.find y.1) : Bool) = true := hh
    cases hf : h.find y.1 with
    | none => rw [hf] at h'; cases h'
    | some v =>
      rw [hf] at h'
      have h2 : bi (sameB v y.2) (subHp h l) false = true := h'
      rw [bi_eq] at h2
      split at h2
      · rename_i hs
        rcases List.mem_cons.1 hx with hx | hx
        · subst hx; rw [hf, sameB_eq hs]
        · exact subHp_mem h2 x hx
      · cases h2
theorem ofL_find {α : Type} : ∀ {l : List (Nat × α)} {t : Nat} {v : α}, (ofL l).find t = some v → (t, v) ∈ l
  | [], _, _, h => by cases h
  | y :: l, t, v, h => by
    have h' : ((ofL l).set y.1 (some y.2)).find t = some v := h
    rw [Tr.find_set] at h'
    split at h'
    · rename_i he
      injection h' with h'
      subst he; subst h'
      exact List.mem_cons_self
    · exact List.mem_cons_of_mem _ (ofL_find h')

theorem After.less {ε ε' : Env} {h h' h2 : Heap} {n n' : Nat} {w w' : World} (a : After ε h n w ε' h' n' w') (hl : ∀ id b, h2.find id = some b → h'.find id = some b) : After ε h n w ε' h2 n' w' where
  le := a.le
  agree := a.agree
  sim := a.sim.less hl
  os := a.os
  size := a.size
  frame := a.frame
  orig id x hx := a.orig id x (hl id x hx)

section pieces
variable {P : Program} {E : Env0} {nt mask : Nat} {b : Frame} {cs : List Frame} {cx : Cx}

theorem chkN_ok {ε : Env} {st : St} {w : World} {k : List Item} {m : Machine} {r : CO} {fl : List (Nat × AV)} {hl : List (Nat × ABlk)} {n : Nat} (h : chkN r fl hl n = true) (hr : COSound P E nt mask b cs k ε st w m r) :
    COSound P E nt mask b cs k ε st w m (.normal (ofL fl) (stL hl n)) := by
  cases r with
  | normal fr st' =>
    have h' : andb (Nat.beq st'.next n) (andb (subFr fr fl) (andb (subHp st'.heap hl) (andb st'.um.isNone (isNilL st'.defers)))) = true := h
    simp only [andb_eq, Bool.and_eq_true] at h'
    obtain ⟨h1, h2, h3, h4, h5⟩ := h'
    have hn : st'.next = n := Nat.eq_of_beq_eq_true h1
    subst hn
    have hum : st'.um = none := by cases hu : st'.um with
      | none => rfl
      | some x => rw [hu] at h4; cases h4
    have hdf : st'.defers = [] := by cases hu : st'.defers with
      | nil => rfl
      | cons x l => rw [hu] at h5; cases h5
    obtain ⟨ε', a', w', hi, ha, hs⟩ := hr
    have hheap : ∀ id b, (ofL hl).find id = some b → st'.heap.find id = some b := fun id b hb => subHp_mem h3 _ (ofL_find hb)
    have hfr : ∀ t v, (ofL fl).find t = some v → fr.find t = some v := fun t v hv => subFr_mem h2 _ (ofL_find hv)
    refine ⟨ε', a', w', ⟨hi.env, hi.glob, hi.sim.less hheap, fun t ht v hv => hi.reads t ht v (hfr t v hv), hi.size, fun t v hv => hi.dom t v (hfr t v hv), ?_, ?_⟩, ha.less hheap, ?_⟩
    · have := hi.defs
      rw [hdf] at this
      exact this
    · have := hi.um
      rw [hum] at this
      exact this
    · rw [hum] at hs
      exact hs
  | _ => cases h

noncomputable def seqs (l : List Code) (c : Code) : Code := List.rec (motive := fun _ => Code) c (fun a _ ih => .seq a ih) l
noncomputable def xSeqs (E : Env0) (nt mask : Nat) (cx : Cx) (l : List Code) : Tr AV → St → CO := List.rec (motive := fun _ => Tr AV → St → CO) (fun fr st => .normal fr st) (fun a _ ih fr st => thenN (xCode E nt mask a cx fr st) ih) l

noncomputable def onSeq {α : Type} (d : α) (k : Code → Code → α) (c : Code) : α := Code.casesOn (motive := fun _ => α) c d (fun _ _ _ => d) (fun a b => k a b) (fun _ _ _ => d) (fun _ _ => d) (fun _ => d) (fun _ _ _ _ => d) (fun _ => d) (fun _ => d) (fun _ => d) (fun _ => d) d (fun _ => d)
/-- The first so many parts of a row of code; what is behind. -/
noncomputable def cutS (n : Nat) : Code → List Code × Code := Nat.rec (motive := fun _ => Code → List Code × Code) (fun c => ([], c)) (fun _ ih c => onSeq ([], c) (fun a b => (a :: (ih b).1, (ih b).2)) c) n

theorem cutS_eq : ∀ (n : Nat) (c : Code), seqs (cutS n c).1 (cutS n c).2 = c
  | 0, _ => rfl
  | n + 1, c => by
    cases c with
    | seq a b =>
      show Code.seq a (seqs (cutS n b).1 (cutS n b).2) = _
      rw [cutS_eq n b]
    | _ => rfl

theorem runs_xSeqs (hall : ∀ c, CodeSound P E nt mask b cs (xCode E nt mask c cx) c) {rest : Code} {r : CO} : ∀ (l : List Code) (fr : Tr AV) (st : St) (fl : List (Nat × AV)) (hl : List (Nat × ABlk)) (n : Nat), chkN (xSeqs E nt mask cx l fr st) fl hl n = true →
    Runs P E nt mask b cs rest (ofL fl) (stL hl n) r → Runs P E nt mask b cs (seqs l rest) fr st r
  | [], fr, st, fl, hl, n, h, hr => by
    intro ε a w k hi
    have h0 : COSound P E nt mask b cs (.code rest :: k) ε st w (lone (b.atR a (.code rest :: k)) (csAt ε st.um cs) w) (.normal fr st) := ⟨ε, a, w, hi, After.refl hi.sim, .refl _ _⟩
    obtain ⟨ε', a', w', hi', ha', hs'⟩ := chkN_ok (r := .normal fr st) h h0
    exact (hr ε' a' w' k hi').trans ha' hs'
  | c :: l, fr, st, fl, hl, n, h, hr => by
    intro ε a w k hi
    have h' : chkN (thenN (xCode E nt mask c cx fr st) (xSeqs E nt mask cx l)) fl hl n = true := h
    refine COSound.head (.one stepR_seq) ?_
    have h0 := hall c ε fr st a w (.code (seqs l rest) :: k) hi
    cases hc : xCode E nt mask c cx fr st with
    | normal fr' st' =>
      rw [hc] at h' h0
      obtain ⟨ε', a', w', hi', ha', hs'⟩ := h0
      have := runs_xSeqs hall l fr' st' fl hl n h' hr ε' a' w' k hi'
      exact this.trans ha' hs'
    | _ => rw [hc] at h'; cases h'

/-- The first pieces of some code; then the others. -/
theorem Runs.cut (hall : ∀ c, CodeSound P E nt mask b cs (xCode E nt mask c cx) c) {c : Code} {r : CO} {fr : Tr AV} {st : St} (n : Nat) {fl : List (Nat × AV)} {hl : List (Nat × ABlk)} {m : Nat} (h : chkN (xSeqs E nt mask cx (cutS n c).1 fr st) fl hl m = true)
    (hr : Runs P E nt mask b cs (cutS n c).2 (ofL fl) (stL hl m) r) : Runs P E nt mask b cs c fr st r := by
  have := runs_xSeqs hall (cutS n c).1 fr st fl hl m h hr
  rw [cutS_eq] at this
  exact this

theorem Runs.all (hall : ∀ c, CodeSound P E nt mask b cs (xCode E nt mask c cx) c) {c : Code} {r : CO} {fr : Tr AV} {st : St} (h : xCode E nt mask c cx fr st = r) : Runs P E nt mask b cs c fr st r := by
  intro ε a w k hi
  rw [← h]
  exact hall c ε fr st a w k hi

end pieces
end Go.Proofs.YtbcnedhhebjhdaaGreatDoor.Fa

/-
  A function without arguments whose contract stands is not gone through again.
-/
namespace Go.Proofs.YtbcnedhhebjhdaaGreatDoor.Fa

noncomputable section
/-- Memory at the start: one table. -/
def rowsSt (rows : List AV) : St := { heap := Tr.nil.set 0 (some (.ro rows)), next := globs, um := none, defers := [] }
def rowsIn (rows : List AV) (h : Heap) : Bool := match h.find 0 with
  | some (.ro cs) => all2 (sameV 3) cs rows
  | _ => false
def orPure (rows : List AV) (f : FuncId) (v : Bool) (call : CallF) : CallF := fun c st => ACall.casesOn (motive := fun _ => Option (AEnd × St)) c
  (fun g as => bi (andb (Nat.beq g f) (andb (isNilL as) (andb st.um.isNone (rowsIn rows st.heap)))) (some (.returned (.bool v), st)) (call (.func g as) st))
  (fun l as => call (.yield l as) st)
end

/-- Wherever the table lies as it should the function, called without arguments, comes to one answer, and what was there stays as it was. -/
def PureOk (P : Program) (rows : List AV) (f : FuncId) (v : Bool) : Prop := (∃ F, P.funcs[f]? = some F ∧ F.body.isSome = true) ∧
  ∀ ε w kind cs, GlobOk (Dn globs) ε → Sim (Dn globs) ε (rowsSt rows).heap.find w → UmOk (Dn globs) ε kind cs none →
    ∃ st', st'.um = none ∧ LeaveRes P f kind cs ε (rowsSt rows) w (lone (Frame.enter P f #[] kind) cs w) (.returned (.bool v), st')

theorem rows_find {rows : List AV} {id : Nat} {b : ABlk} (h : (rowsSt rows).heap.find id = some b) : id = 0 ∧ b = .ro rows := by
  have h' : ((Tr.nil : Heap).set 0 (some (.ro rows))).find id = some b := h
  rw [Tr.find_set] at h'
  split at h'
  · rename_i he
    injection h' with h'
    exact ⟨he.symm, h'.symm⟩
  · cases h'

theorem rowsIn_eq {rows : List AV} {h : Heap} (hr : rowsIn rows h = true) : h.find 0 = some (.ro rows) := by
  unfold rowsIn at hr
  split at hr
  · rename_i cs he
    rw [he, all2_eq (sameV_eq 3) hr]
  · cases hr

/-- Work that touched nothing of what is known. -/
theorem After.framed {rows : List AV} {ε ε' : Env} {h h' : Heap} {n n' : Nat} {w w' : World} (a : After ε (rowsSt rows).heap globs w ε' h' n' w') (hs : Sim (Dn n) ε h.find w) : After ε h n w ε h n w' := by
  have hfr : ∀ b, b < w.heap.size → w'.heap[b]? = w.heap[b]? := fun b hb => a.frame b hb fun id x hx hr => by
    obtain ⟨_, h2⟩ := rows_find hx
    subst h2
    cases hr
  refine ⟨Nat.le_refl _, .refl _ _, ⟨hs.there, fun id b hb => ?_, hs.inj⟩, a.os, a.size, fun b hb _ => hfr b hb, fun id x hx => .inr ⟨id, x, hx, fun h => h, rfl⟩⟩
  obtain ⟨x, hx, hok⟩ := hs.obj id b hb
  exact ⟨x, by rw [hfr _ (hs.lt hb)]; exact hx, hok⟩

section
variable {P : Program} {rows : List AV} {f : FuncId} {v : Bool} {call : CallF}

theorem globs_le {n : Nat} {ε : Env} (hg : GlobOk (Dn n) ε) : globs ≤ n := (hg 4 (by decide)).1

theorem orPure_func (hpl : ∀ c ∈ rows, ∀ D ε, okv D ε c) (hp : PureOk P rows f v) (hfs : FuncSound P call) : FuncSound P (orPure rows f v call) := by
  intro k as st r h hd ε w kind cs hg hs has hum
  have h' : bi (andb (Nat.beq k f) (andb (isNilL as) (andb st.um.isNone (rowsIn rows st.heap)))) (some (.returned (.bool v), st)) (call (.func k as) st) = some r := h
  rw [bi_eq] at h'
  split at h'
  · rename_i hc
    simp only [andb_eq, Bool.and_eq_true] at hc
    obtain ⟨h1, h2, h3, h4⟩ := hc
    have hk : k = f := Nat.eq_of_beq_eq_true h1
    subst hk
    have has0 : as = [] := by cases as with
      | nil => rfl
      | cons a l => cases h2
    subst has0
    have hu0 : st.um = none := by cases hu : st.um with
      | none => rfl
      | some x => rw [hu] at h3; cases h3
    injection h' with h'
    subst h'
    refine ⟨hp.1, ?_⟩
    have hge := globs_le hg
    have hrow := rowsIn_eq h4
    have hg0 : GlobOk (Dn globs) ε := fun i hi => ⟨hi, (hg i hi).2⟩
    have hs0 : Sim (Dn globs) ε (rowsSt rows).heap.find w := by
      refine ⟨fun id b hb => ?_, fun id b hb => ?_, fun i j b c hb hc _ => ?_⟩
      · rw [(rows_find hb).1]; exact (by decide : 0 < globs)
      · obtain ⟨h5, h6⟩ := rows_find hb
        subst h5; subst h6
        obtain ⟨x, hx, hok⟩ := hs.obj 0 _ hrow
        obtain ⟨arr, T, fz, h7, h8, h9⟩ := hok
        exact ⟨x, hx, arr, T, fz, h7, h8, fun c hc => ⟨hpl c hc _ _, (h9 c hc).2⟩⟩
      · rw [(rows_find hb).1, (rows_find hc).1]
    obtain ⟨st', hu', ε', w', fr', ha, _, hst, hfn, hdef, hkind, hm⟩ := hp.2 ε w kind cs hg0 hs0 (by
      rw [hu0] at hum
      exact hum)
    rw [hu'] at hst
    refine ⟨ε, w', fr', ha.framed hs, hum, ?_, hfn, hdef, hkind, ?_⟩
    · show Steps P (lone (Frame.enter P k #[] kind) (csAt ε st.um cs) w) (lone fr' (csAt ε st.um cs) w')
      rw [hu0]
      exact hst
    · obtain ⟨h5, _, fn, h6, h7⟩ := hm
      refine ⟨h5, by simp [okv], fn, h6, ?_⟩
      simpa [g] using h7
  · exact hfs k as st r h' hd ε w kind cs hg hs has hum

theorem orPure_call (hpl : ∀ c ∈ rows, ∀ D ε, okv D ε c) (hp : PureOk P rows f v) (hfs : FuncSound P call) (hcs : CallSound P call) : CallSound P (orPure rows f v call) :=
  callSound_of (orPure_func hpl hp hfs) fun l as st r h hu hd ε w hg hs hok => hcs (.yield l as) st r h hu hd ε w hg hs hok

end
end Go.Proofs.YtbcnedhhebjhdaaGreatDoor.Fa
