/-
  Loud operations. No condition.
-/
import Derived.Test.YtbcnedhhebjhdaaGreatDoorFa3

/-
  Loud operations against the model's: what is behind one; a row written, an object put, a block made.
-/
namespace Go.Proofs.YtbcnedhhebjhdaaGreatDoor.Fa

/-- The ids below n. -/
def Dn (n : Nat) : Nat → Prop := fun i => i < n
def notRo (b : ABlk) : Bool := match b with
  | .ro _ => false
  | _ => true

/-- What is behind a stretch of work: from memory h (ids below n) over w to h' (ids below n') over w'. -/
structure After (ε : Env) (h : Heap) (n : Nat) (w : World) (ε' : Env) (h' : Heap) (n' : Nat) (w' : World) : Prop where
  le : n ≤ n'
  agree : Agree (Dn n) ε ε'
  sim : Sim (Dn n') ε' h'.find w'
  os : SameOs w w'
  size : w.heap.size ≤ w'.heap.size
  frame : ∀ b, b < w.heap.size → (∀ id x, h.find id = some x → notRo x = true → ε.blk id ≠ b) → w'.heap[b]? = w.heap[b]?
  orig : ∀ id x, h'.find id = some x → w.heap.size ≤ ε'.blk id ∨ ∃ id0 x0, h.find id0 = some x0 ∧ (notRo x = true → notRo x0 = true) ∧ ε.blk id0 = ε'.blk id

theorem After.refl {ε : Env} {h : Heap} {n : Nat} {w : World} (hs : Sim (Dn n) ε h.find w) : After ε h n w ε h n w :=
  ⟨Nat.le_refl _, .refl _ _, hs, .refl w, Nat.le_refl _, fun _ _ _ => rfl, fun id x hx => .inr ⟨id, x, hx, fun hr => hr, rfl⟩⟩

theorem After.trans {ε ε' ε'' : Env} {h h' h'' : Heap} {n n' n'' : Nat} {w w' w'' : World} (a : After ε h n w ε' h' n' w') (b : After ε' h' n' w' ε'' h'' n'' w'') : After ε h n w ε'' h'' n'' w'' where
  le := Nat.le_trans a.le b.le
  agree := a.agree.trans b.agree fun _ hi => Nat.lt_of_lt_of_le hi a.le
  sim := b.sim
  os := a.os.trans b.os
  size := Nat.le_trans a.size b.size
  frame k hk hn := by
    rw [b.frame k (Nat.lt_of_lt_of_le hk a.size) fun id x hx hr he => ?_, a.frame k hk hn]
    rcases a.orig id x hx with hge | ⟨id0, x0, h0, hr0, he0⟩
    · omega
    · exact hn id0 x0 h0 (hr0 hr) (he0.trans he)
  orig id x hx := by
    rcases b.orig id x hx with hge | ⟨id0, x0, h0, hr0, he0⟩
    · exact .inl (Nat.le_trans a.size hge)
    · rcases a.orig id0 x0 h0 with hge | ⟨id1, x1, h1, hr1, he1⟩
      · exact .inl (by omega)
      · exact .inr ⟨id1, x1, h1, fun hr => hr1 (hr0 hr), he1.trans he0⟩

/-- The streams alone. -/
theorem After.os_only {ε : Env} {h : Heap} {n : Nat} {w w' : World} (hs : Sim (Dn n) ε h.find w) (hw : w'.heap = w.heap) (ho : SameOs w w') : After ε h n w ε h n w' :=
  ⟨Nat.le_refl _, .refl _ _, hs.heap hw, ho, by rw [hw]; exact Nat.le_refl _, fun _ _ _ => by rw [hw], fun id x hx => .inr ⟨id, x, hx, fun hr => hr, rfl⟩⟩

/-- An object put in place of another. -/
theorem After.put {ε : Env} {h : Heap} {n : Nat} {w w' : World} (hs : Sim (Dn n) ε h.find w) {id : Nat} {b b' : ABlk} {o : Obj} (hb : h.find id = some b) (hr : notRo b = true) (ho : BlkOk (Dn n) ε id b' o)
    (hw : w'.heap = w.heap.setIfInBounds (ε.blk id) o) (hos : SameOs w w') : After ε h n w ε (h.set id (some b')) n w' where
  le := Nat.le_refl _
  agree := .refl _ _
  sim := by
    have hlt := hs.lt hb
    refine ⟨fun i c hc => ?_, fun i c hc => ?_, fun i j c d hc hd he => ?_⟩
    · rw [Tr.find_set] at hc
      split at hc
      · rename_i h1; subst h1; exact hs.there id b hb
      · exact hs.there i c hc
    · rw [Tr.find_set] at hc
      split at hc
      · rename_i h1
        subst h1
        injection hc with hc
        subst hc
        exact ⟨o, by rw [hw]; simp [hlt], ho⟩
      · rename_i h1
        obtain ⟨x, hx, hok⟩ := hs.obj i c hc
        have hne : ε.blk id ≠ ε.blk i := fun he => h1 (hs.inj id i b c hb hc he)
        exact ⟨x, by rw [hw, Array.getElem?_setIfInBounds_ne hne]; exact hx, hok⟩
    · rw [Tr.find_set] at hc hd
      split at hc
      · rename_i h1
        subst h1
        split at hd
        · rename_i h2; exact h2
        · exact hs.inj id j b d hb hd he
      · split at hd
        · rename_i h2; subst h2; exact hs.inj i id c b hc hb he
        · exact hs.inj i j c d hc hd he
  os := hos
  size := by rw [hw]; simp
  frame k _ hn := by rw [hw, Array.getElem?_setIfInBounds_ne (hn id b hb hr)]
  orig i x hx := by
    rw [Tr.find_set] at hx
    split at hx
    · rename_i h1; subst h1; exact .inr ⟨id, b, hb, fun _ => hr, rfl⟩
    · exact .inr ⟨i, x, hx, fun h => h, rfl⟩

/-- A block made. -/
theorem After.alloc {ε ε' : Env} {h : Heap} {n : Nat} {w w' : World} (hs : Sim (Dn n) ε h.find w) {b : ABlk} {o : Obj} (ha : Agree (Dn n) ε ε') (hb : ε'.blk n = w.heap.size) (ho : BlkOk (Dn (n + 1)) ε' n b o)
    (hw : w'.heap = w.heap.push o) (hos : SameOs w w') : After ε h n w ε' (h.set n (some b)) (n + 1) w' where
  le := by omega
  agree := ha
  sim := by
    have hs' := hs.agree (D' := Dn (n + 1)) ha fun i hi => Nat.lt_succ_of_lt hi
    have hlt : ∀ i c, h.find i = some c → ε'.blk i < w.heap.size := fun i c hc => hs'.lt hc
    refine ⟨fun i c hc => ?_, fun i c hc => ?_, fun i j c d hc hd he => ?_⟩
    · rw [Tr.find_set] at hc
      split at hc
      · rename_i h1; subst h1; exact Nat.lt_succ_self _
      · exact hs'.there i c hc
    · rw [Tr.find_set] at hc
      split at hc
      · rename_i h1
        subst h1
        injection hc with hc
        subst hc
        exact ⟨o, by rw [hw, hb]; simp, ho⟩
      · obtain ⟨x, hx, hok⟩ := hs'.obj i c hc
        refine ⟨x, ?_, hok⟩
        rw [hw, Array.getElem?_push, if_neg (by have := hlt i c hc; omega)]
        exact hx
    · rw [Tr.find_set] at hc hd
      split at hc
      · rename_i h1
        subst h1
        split at hd
        · rename_i h2; exact h2
        · have := hlt j d hd; omega
      · split at hd
        · rename_i h2; subst h2; have := hlt i c hc; omega
        · exact hs'.inj i j c d hc hd he
  os := hos
  size := by rw [hw]; simp
  frame k hk _ := by rw [hw, Array.getElem?_push, if_neg (by omega)]
  orig i x hx := by
    rw [Tr.find_set] at hx
    split at hx
    · rename_i h1; subst h1; exact .inl (by omega)
    · have hi : i < n := hs.there i x hx
      exact .inr ⟨i, x, hx, fun h => h, (ha i hi).1.symm⟩

/-- An id taken, memory as it was. -/
theorem After.taken {ε ε' : Env} {h : Heap} {n : Nat} {w w' : World} (hs : Sim (Dn n) ε h.find w) (ha : Agree (Dn n) ε ε') (hw : w'.heap = w.heap) (hos : SameOs w w') : After ε h n w ε' h (n + 1) w' where
  le := by omega
  agree := ha
  sim := (hs.agree (D' := Dn (n + 1)) ha fun i hi => Nat.lt_succ_of_lt hi).heap hw
  os := hos
  size := by rw [hw]; exact Nat.le_refl _
  frame k hk _ := by rw [hw]
  orig i x hx := .inr ⟨i, x, hx, fun h => h, (ha i (hs.there i x hx)).1.symm⟩

/-- What a loud operation's run must be. -/
def LRes (ε : Env) (st : St) (w : World) (r : AV × St) (res : Result Next) : Prop := ∃ ε' w' nx, res = .ok nx w' ∧ (nx = .value (g ε' r.1) ∨ (nx = .skip ∧ r.1 = .undef)) ∧ okv (Dn r.2.next) ε' r.1 ∧
  After ε st.heap st.next w ε' r.2.heap r.2.next w' ∧ r.2.um = st.um ∧ r.2.defers = st.defers

/-! ### Rows written -/
theorem run_storeCells (P : Program) (b o : Nat) (T : TypeId) (fz : Nat × Nat) : ∀ (vs : List Value) (i : Nat) (w : World) (arr : Array Value), w.heap[b]? = some (.cells arr T fz) → (∀ v ∈ vs, v.oneCell' = true) → o + i + vs.length ≤ arr.size →
    NoMark arr.size fz → ∃ w', (storeCells ⟨b, o, none⟩ vs i).run P w = .ok () w' ∧ SameOs w w' ∧ ∃ arr', w'.heap = w.heap.setIfInBounds b (.cells arr' T fz) ∧ arr'.size = arr.size ∧
      ∀ j, arr'[j]? = if o + i ≤ j ∧ j < o + i + vs.length then vs[j - (o + i)]? else arr[j]? := by
  intro vs
  induction vs with
  | nil =>
    intro i w arr hx _ _ _
    refine ⟨w, rfl, .refl w, arr, ?_, rfl, fun j => ?_⟩
    · refine Array.ext (by simp) fun k h1 h2 => ?_
      rw [Array.getElem_setIfInBounds]
      split
      · rename_i he
        subst he
        rw [Array.getElem?_eq_getElem h1] at hx
        injection hx
      · rfl
    · rw [if_neg (by simp)]
  | cons v vs ih =>
    intro i w arr hx hone hlen hmark
    simp only [List.length_cons] at hlen
    have hb : b < w.heap.size := by
      rcases Nat.lt_or_ge b w.heap.size with h | h
      · exact h
      · simp [Array.getElem?_eq_none h] at hx
    have hcell : w.cell? ⟨b, o + i, none⟩ = some arr[o + i] := by
      simp only [World.cell?, hx, Option.isSome_none, Bool.false_eq_true, if_false]
      exact Array.getElem?_eq_getElem (by omega)
    have hfz : w.frozen? ⟨b, o + i, none⟩ = false := by
      obtain ⟨f1, f2⟩ := fz
      have := hmark (o + i) (by omega)
      simp only [World.frozen?, hx]
      exact this
    have hset : (w.setCell ⟨b, o + i, none⟩ v).heap = w.heap.setIfInBounds b (.cells (arr.setIfInBounds (o + i) v) T fz) := by
      refine Array.ext (by simp [World.setCell]) fun k h1 h2 => ?_
      simp only [World.setCell]
      rw [Array.getElem_modify, Array.getElem_setIfInBounds]
      split
      · rename_i he
        subst he
        rw [Array.getElem?_eq_getElem hb] at hx
        injection hx with hx
        rw [hx]
        simp
      · rfl
    obtain ⟨w', hr, hos, arr', hw', hsz, hget⟩ := ih (i + 1) (w.setCell ⟨b, o + i, none⟩ v) (arr.setIfInBounds (o + i) v) (by rw [hset]; simp [hb]) (fun u hu => hone u (List.mem_cons_of_mem _ hu)) (by simp; omega) (by simpa using hmark)
    refine ⟨w', ?_, ⟨hos.1, hos.2.1, hos.2.2⟩, arr', ?_, by rw [hsz]; simp, fun j => ?_⟩
    · rw [storeCells, Sem.run_bind, add_addr, run_store P w _ v _ (hone v List.mem_cons_self), hcell]
      simp only [hfz, Bool.false_eq_true, if_false, Result.andThen_ok]
      exact hr
    · rw [hw', hset]
      simp
    · rw [hget j]
      by_cases h1 : o + (i + 1) ≤ j ∧ j < o + (i + 1) + vs.length
      · rw [if_pos h1, if_pos ⟨by omega, by simp; omega⟩, show j - (o + i) = (j - (o + (i + 1))) + 1 from by omega, List.getElem?_cons_succ]
      · rw [if_neg h1]
        by_cases h2 : o + i = j
        · subst h2
          rw [if_pos ⟨by omega, by simp⟩, Array.getElem?_setIfInBounds_self_of_lt (by omega)]
          simp
        · rw [if_neg (by simp; omega), Array.getElem?_setIfInBounds_ne h2]

theorem writeCells_ok (P : Program) {ε : Env} {h h' : Heap} {n : Nat} {w : World} (hs : Sim (Dn n) ε h.find w) {id off : Nat} {vs : List AV} (hv : CellsOk (Dn n) ε vs) (hw : writeCells h id off vs = some h') :
    ∃ w', (storeCells ⟨ε.blk id, ε.sft id + off, none⟩ (vs.map (g ε))).run P w = .ok () w' ∧ After ε h n w ε h' n w' := by
  cases vs with
  | nil =>
    injection hw with hw
    subst hw
    exact ⟨w, rfl, .refl hs⟩
  | cons v vs =>
    have hw' : ob (h.find id) (fun b => onCells none (fun cs r o s => ob (lsplice off (v :: vs) (bi (isNilL r) cs (rowOf cs r))) fun cs => some (h.set id (some (.cells cs [] o s)))) b) = some h' := hw
    rw [ob_eq_some] at hw'
    obtain ⟨b, hb, hw'⟩ := hw'
    cases b <;> first | (cases hw'; done) | skip
    rename_i cs r o s
    have hw2 : ob (lsplice off (v :: vs) (bi (isNilL r) cs (rowOf cs r))) (fun cs => some (h.set id (some (.cells cs [] o s)))) = some h' := hw'
    rw [rowOf_if, ob_eq_some] at hw2
    obtain ⟨cs', hsp, hw2⟩ := hw2
    injection hw2 with hw2
    subst hw2
    obtain ⟨x, hx, arr, T, fz, rfl, hwin, hcs, hmark, hfz, hopn⟩ := hs.obj id _ hb
    obtain ⟨h1, h2, h3, _⟩ := lsplice_some hsp
    have hbnd : ∀ i, i < (row cs r).length → ε.sft id + i < arr.size := by
      intro i hi
      have := hwin i _ (List.getElem?_eq_getElem hi)
      rcases Nat.lt_or_ge (ε.sft id + i) arr.size with h | h
      · exact h
      · rw [Array.getElem?_eq_none h] at this; cases this
    have hsz : ε.sft id + off + 0 + ((v :: vs).map (g ε)).length ≤ arr.size := by
      have := hbnd ((row cs r).length - 1) (by simp only [List.length_cons] at h1; omega)
      simp only [List.length_map, List.length_cons] at h1 ⊢
      omega
    obtain ⟨w', hr, hos, arr', hw', hasz, hget⟩ := run_storeCells P (ε.blk id) (ε.sft id + off) T fz ((v :: vs).map (g ε)) 0 w arr hx (by
      intro u hu
      obtain ⟨z, hz, rfl⟩ := List.mem_map.1 hu
      rw [g_one1]
      exact (hv z hz).2) hsz hmark
    refine ⟨w', hr, .put hs hb rfl ?_ hw' hos⟩
    have hrow : row cs' [] = cs' := by simp [row]
    refine ⟨arr', T, fz, rfl, ?_, ?_, by rw [hasz]; exact hmark, hfz, fun z hz => ?_⟩
    · intro i u hu
      rw [hrow, h3 i] at hu
      rw [hget (ε.sft id + i)]
      simp only [List.length_map, Nat.add_zero]
      split at hu
      · rename_i hc
        rw [if_pos (by omega), show ε.sft id + i - (ε.sft id + off) = i - off from by omega, List.getElem?_map, hu]
        rfl
      · rename_i hc
        rw [if_neg (by omega)]
        exact hwin i u hu
    · rw [hrow]
      exact CellsOk.splice hsp hv hcs
    · obtain ⟨z1, z2⟩ := hopn z hz
      rw [hrow, h2, hasz]
      exact ⟨z1, z2⟩

end Go.Proofs.YtbcnedhhebjhdaaGreatDoor.Fa

/-
  Loud operations against the model's: stores, maps, iterators.
-/
namespace Go.Proofs.YtbcnedhhebjhdaaGreatDoor.Fa

section some
variable {α : Type} {r : α} {v : AV}
theorem onInt_some {k : IntKind → Int → Option α} (h : onInt none k v = some r) : ∃ j z, v = .int j z ∧ k j z = some r := by cases v <;> first | (cases h; done) | exact ⟨_, _, rfl, h⟩
theorem onNat_some {k : Nat → Option α} {z : Int} (h : onNat none k z = some r) : ∃ m : Nat, z = Int.ofNat m ∧ k m = some r := by cases z <;> first | (cases h; done) | exact ⟨_, rfl, h⟩
theorem onPtr_some {k : Nat → Nat → Option α} (h : onPtr none k v = some r) : ∃ i o, v = .ptr i o ∧ k i o = some r := by cases v <;> first | (cases h; done) | exact ⟨_, _, rfl, h⟩
theorem onMap_some {nl : Option α} {k : Nat → Option α} (h : onMap none nl k v = some r) : (v = .nilMap ∧ nl = some r) ∨ ∃ i, v = .map i ∧ k i = some r := by cases v <;> first | (cases h; done) | exact .inl ⟨rfl, h⟩ | exact .inr ⟨_, rfl, h⟩
theorem onSlc_some {d nl : Option α} {k : Nat → Nat → Nat → ACap → Option α} (h : onSlc d nl k v = some r) : (v = .nilSlc ∧ nl = some r) ∨ (∃ i o n c, v = .slc i o n c ∧ k i o n c = some r) ∨ d = some r := by
  cases v <;> first | exact .inl ⟨rfl, h⟩ | exact .inr (.inl ⟨_, _, _, _, rfl, h⟩) | exact .inr (.inr h)
end some

section ops
variable {P : Program} {E : Env0} {ε : Env} {st : St} {w : World} {a : Act} {lc : Lc} {fr : Tr AV} {l : List Nat} {r : AV × St}

theorem LRes.skip {ε' : Env} {w' : World} {st' : St} {res : Result Next} (h : res = .ok .skip w') (ha : After ε st.heap st.next w ε' st'.heap st'.next w') (h1 : st'.um = st.um) (h2 : st'.defers = st.defers) : LRes ε st w (.undef, st') res :=
  ⟨ε', w', .skip, h, .inr ⟨rfl, rfl⟩, by simp [okv], ha, h1, h2⟩
theorem LRes.value {ε' : Env} {w' : World} {v : AV} {st' : St} {res : Result Next} (h : res = .ok (.value (g ε' v)) w') (hv : okv (Dn st'.next) ε' v) (ha : After ε st.heap st.next w ε' st'.heap st'.next w') (h1 : st'.um = st.um) (h2 : st'.defers = st.defers) : LRes ε st w (v, st') res :=
  ⟨ε', w', .value (g ε' v), h, .inl rfl, hv, ha, h1, h2⟩

theorem lStore_ok (c : OpAt P E (Dn st.next) ε st.heap st.next w a lc fr l) (t : TypeId) (x y : Operand) (hx : ∀ u, x = .tmp u → u ∈ l) (hy : ∀ u, y = .tmp u → u ∈ l) {f : LF} (hq : cStore E t x y = some f) (hf : f lc fr st = some r) :
    LRes ε st w r ((do Instr.storeAt t (a.eval x) (a.eval y); pure .skip : Sem Next).run P w) := by
  unfold cStore at hq
  rw [ob_eq_some] at hq
  obtain ⟨s, hs, hq⟩ := hq
  injection hq with hq
  subst hq
  unfold lStore at hf
  rw [ob_eq_some] at hf
  obtain ⟨v, hv, hf⟩ := hf
  obtain ⟨h1, _⟩ := c.gt hv hx
  obtain ⟨id, off, rfl, hf2⟩ := onPtr_some hf
  clear hf
  rw [ob_eq_some] at hf2
  obtain ⟨u, hu, hf⟩ := hf2
  obtain ⟨h2, h3⟩ := c.gt hu hy
  rw [bi_eq] at hf
  split at hf
  · rename_i hc
    simp only [andb_eq, notb_eq, Bool.and_eq_true, Bool.not_eq_true', llen_eq] at hc
    obtain ⟨h4, h5⟩ := isTup_false (ε := ε) (D := Dn st.next) hc.1
    have hlen : u.cells.length = s := Nat.eq_of_beq_eq_true hc.2
    rw [ob_eq_some] at hf
    obtain ⟨h', hw, hf⟩ := hf
    injection hf with hf
    subst hf
    obtain ⟨w', hr, ha⟩ := writeCells_ok P c.sim (h5 h3) hw
    refine LRes.skip (ε' := ε) (w' := w') ?_ ha rfl rfl
    have hsz := c.env.run_size hs w
    have hne : ¬ (u.cells.map (g ε)).toArray.size ≠ s := by simp [hlen]
    simp only [Instr.storeAt, Instr.sureAddr, h1, h2, g, Sem.run_bind, Sem.run_pure, Result.andThen_ok, storeVar, h4, hsz, if_neg hne]
    rw [hr]
    rfl
  · cases hf

/-! ### Maps -/
theorem kt_run (hE : EnvOk P E) {kt : TypeId} {k : AV} (hko : keyOk E 9 kt k = true) (w : World) : ∃ d, (underlying kt).run P w = .ok d w := by
  have hko' : Option.rec (motive := fun _ => Bool) false (fun i => keyDesc E (keyOk E 8) i k) (E.type kt) = true := hko
  cases hi2 : E.type kt with
  | none => rw [hi2] at hko'; cases hko'
  | some i2 =>
    obtain ⟨d2, _, _, hr2⟩ := (hE.tyOk hi2).run_underlying
    exact ⟨d2, hr2 w⟩

theorem sameC_eq {x y : AV} (h : sameC x y = true) : x = y := by
  unfold sameC at h
  simp only [orb_eq, Bool.or_eq_true] at h
  rcases h with (h | h) | h
  · cases x <;> first | (cases h; done) | skip
    cases y <;> first | (cases h; done) | skip
    rename_i k a1 j b1
    have h' : andb (kindEq k j) (intEq a1 b1) = true := h
    simp only [andb_eq, kindEq_eq, intEq_eq, Bool.and_eq_true, decide_eq_true_eq] at h'
    rw [h'.1, h'.2]
  · cases x <;> first | (cases h; done) | skip
    cases y <;> first | (cases h; done) | skip
    rename_i a1 b1
    have h' : bytesEq a1 b1 = true := h
    rw [bytesEq_eq] at h'
    simp only [decide_eq_true_eq] at h'
    rw [h']
  · cases x <;> first | (cases h; done) | skip
    cases y <;> first | (cases h; done) | skip
    rename_i a1 b1
    have h' : eqb a1 b1 = true := h
    simp at h'
    rw [h']
theorem sameCs_eq : ∀ {xs ys : List AV}, sameCs xs ys = true → xs = ys := by
  intro xs
  induction xs with
  | nil => intro ys h; cases ys with
    | nil => rfl
    | cons y ys => cases h
  | cons x xs ih =>
    intro ys h
    cases ys with
    | nil => cases h
    | cons y ys =>
      have h' : bi (sameC x y) (sameCs xs ys) false = true := h
      rw [bi_eq] at h'
      split at h'
      · rename_i h1
        rw [sameC_eq h1, ih h']
      · cases h'
theorem sameK_eq {x y : AV} (h : sameK x y = true) : x = y := by
  unfold sameK at h
  rw [orb_eq, Bool.or_eq_true] at h
  rcases h with h | h
  · exact sameC_eq h
  · cases x <;> first | (cases h; done) | skip
    cases y <;> first | (cases h; done) | skip
    rw [sameCs_eq h]
/-- A plain value: of a key whose bits are compared. -/
def flatC : AV → Bool
  | .bool _ => true
  | .int _ _ => true
  | .str _ => true
  | _ => false
theorem sameC_flat {x y : AV} (h : sameC x y = true) : flatC x = true := by
  unfold sameC at h
  simp only [orb_eq, Bool.or_eq_true] at h
  rcases h with (h | h) | h <;> (cases x <;> first | (cases h; done) | rfl)
theorem sameCs_flat : ∀ {xs ys : List AV}, sameCs xs ys = true → ∀ x ∈ xs, flatC x = true := by
  intro xs
  induction xs with
  | nil => intro ys _ x hx; cases hx
  | cons x xs ih =>
    intro ys h z hz
    cases ys with
    | nil => cases h
    | cons y ys =>
      have h' : bi (sameC x y) (sameCs xs ys) false = true := h
      rw [bi_eq] at h'
      split at h'
      · rename_i h1
        rcases List.mem_cons.1 hz with hz | hz
        · rw [hz]; exact sameC_flat h1
        · exact ih h' z hz
      · cases h'
theorem sameBits_flat {x : AV} (h : flatC x = true) (N : Nat) : Instr.sameBits N (g ε x) (g ε x) = true := by
  cases x <;> first | (cases h; done) | (cases N <;> simp [g, Instr.sameBits, bytes_eq])
theorem sameK_bits {x y : AV} (h : sameK x y = true) (N : Nat) : Instr.sameBits (N + 1) (g ε x) (g ε y) = true := by
  have he := sameK_eq h
  subst he
  unfold sameK at h
  rw [orb_eq, Bool.or_eq_true] at h
  rcases h with h | h
  · exact sameBits_flat (sameC_flat h) _
  · cases x <;> first | (cases h; done) | skip
    rename_i cs
    have hfl := sameCs_flat (xs := cs) (ys := cs) h
    simp only [g, Instr.sameBits, beq_self_eq_true, Bool.true_and]
    rw [List.all_eq_true]
    intro p hp
    have : ∀ (l : List Value) (p : Value × Value), p ∈ l.zip l → p.1 = p.2 ∧ p.1 ∈ l := by
      intro l
      induction l with
      | nil => intro p hp; simp at hp
      | cons v l ih =>
        intro p hp
        simp only [List.zip_cons_cons, List.mem_cons] at hp
        rcases hp with hp | hp
        · rw [hp]; exact ⟨rfl, List.mem_cons_self⟩
        · obtain ⟨h1, h2⟩ := ih p hp; exact ⟨h1, List.mem_cons_of_mem _ h2⟩
    obtain ⟨h1, h2⟩ := this _ p hp
    obtain ⟨z, hz, hz2⟩ := List.mem_map.1 (by simpa using h2)
    show Instr.sameBits N p.1 p.2 = true
    rw [← h1, ← hz2]
    exact sameBits_flat (hfl z hz) N

theorem map_set (es : List Ent) (i : Nat) (e : Ent) (k v : AV) (he : es[i]? = some e) :
    ((es.map (gEnt ε)).toArray.modify i fun x => { x with key := g ε k, val := g ε v }) = ((es.set i (k, v, e.2.2)).map (gEnt ε)).toArray := by
  refine Array.ext (by simp) fun j h1 h2 => ?_
  rw [Array.getElem_modify]
  simp only [List.getElem_toArray, List.getElem_map, List.getElem_set]
  split
  · rename_i hij
    subst hij
    have hlt : i < es.length := by simpa using h1
    rw [List.getElem?_eq_getElem hlt] at he
    injection he with he
    simp [gEnt, he]
  · rfl

theorem lMapPut_ok (c : OpAt P E (Dn st.next) ε st.heap st.next w a lc fr l) (t : TypeId) (x y z : Operand) (hx : ∀ u, x = .tmp u → u ∈ l) (hy : ∀ u, y = .tmp u → u ∈ l) (hz : ∀ u, z = .tmp u → u ∈ l) {f : LF} (hq : cMapPut E t x y z = some f) (hf : f lc fr st = some r) :
    LRes ε st w r ((do Instr.mapUpdate t (a.eval x) (a.eval y) (a.eval z); pure .skip : Sem Next).run P w) := by
  unfold cMapPut at hq
  rw [ob_eq_some] at hq
  obtain ⟨i, hi, hq⟩ := hq
  obtain ⟨d, hd, he, hru⟩ := (c.env.tyOk hi).run_underlying
  rw [he] at hq
  obtain ⟨kt, et, rfl, hq2⟩ := onMapD_some hq
  clear hq
  injection hq2 with hq2
  subst hq2
  unfold lMapPut at hf
  rw [ob_eq_some] at hf
  obtain ⟨m, hm, hf⟩ := hf
  obtain ⟨h1, _⟩ := c.gt hm hx
  rcases onMap_some hf with ⟨_, h⟩ | ⟨id, rfl, hf2⟩
  · cases h
  clear hf
  rw [ob_eq_some] at hf2
  obtain ⟨k, hk, hf2⟩ := hf2
  obtain ⟨h2, hkok⟩ := c.gt hk hy
  rw [ob_eq_some] at hf2
  obtain ⟨v, hv, hf2⟩ := hf2
  obtain ⟨h3, hvok⟩ := c.gt hv hz
  rw [ob_eq_some] at hf2
  obtain ⟨mm, hmm, hf2⟩ := hf2
  rw [ob_eq_some] at hf2
  obtain ⟨h', hput, hf2⟩ := hf2
  injection hf2 with hf2
  subst hf2
  obtain ⟨g1, g2, g3⟩ := mapAt_ok c.sim hmm
  unfold mapPut at hput
  rw [bi_eq] at hput
  split at hput
  · rename_i hc
    simp only [andb_eq, notb_eq, Bool.and_eq_true] at hc
    rw [ob_eq_some] at hput
    obtain ⟨fr', hfind, hput⟩ := hput
    obtain ⟨d2, hd2⟩ := kt_run c.env hc.1 w
    obtain ⟨f1, f2⟩ := findKey_ok (P := P) (w := w) c.env hkok g3 hfind hd2
    have hchk := keyOk_ok (P := P) (w := w) c.env false 9 10000 (by omega) kt k hkok hc.1
    have hget := run_getObj P w g1 (by intro c T fz hh; cases hh)
    obtain ⟨b, hb, hbm⟩ : ∃ b, st.heap.find id = some b ∧ notRo b = true := by
      unfold mapAt at hmm
      rw [ob_eq_some] at hmm
      obtain ⟨b, hb, hmm⟩ := hmm
      cases b <;> first | (cases hmm; done) | exact ⟨_, hb, rfl⟩
    have hset := fun o' => run_setObj P w (o' := o') g1 (by intro c T fz hh; cases hh)
    cases fr' with
    | none =>
      have hput' : some (putMap st.heap id (lapp mm.1 [(k, v, mm.2)]) (Nat.succ mm.2)) = some h' := hput
      injection hput' with hput'
      subst hput'
      have hbk : BlkOk (Dn st.next) ε id (.map (lapp mm.1 [(k, v, mm.2)]) (Nat.succ mm.2)) (.map ((mm.1.map (gEnt ε)).toArray.push { key := g ε k, val := g ε v, born := mm.2 }) (mm.2 + 1)) := by
        refine ⟨?_, fun e he => ?_⟩
        · congr 1
          apply Array.ext'
          simp [gEnt]
        · rw [lapp_eq, List.mem_append, List.mem_singleton] at he
          rcases he with he | he
          · exact g3 e he
          · rw [he]; exact ⟨hkok, hvok⟩
      refine LRes.skip (ε' := ε) (w' := _) ?_ (After.put (w' := { w with heap := w.heap.setIfInBounds (ε.blk id) (.map ((mm.1.map (gEnt ε)).toArray.push { key := g ε k, val := g ε v, born := mm.2 }) (mm.2 + 1)) }) c.sim hb hbm hbk rfl ⟨rfl, rfl, rfl⟩) rfl rfl
      simp only [Instr.mapUpdate, Sem.run_bind, hru, Result.andThen_ok, h1, h2, h3, g, hget, hchk, f1, Option.map_none, hset, Sem.run_pure]
    | some e =>
      have hput' : bi (sameK e.2.1 k) (some (putMap st.heap id (lset mm.1 (k, v, e.2.2.2) e.1) mm.2)) none = some h' := hput
      rw [bi_eq] at hput'
      split at hput'
      · rename_i hsame
        injection hput' with hput'
        subst hput'
        have hat := f2 e rfl
        have hbits := sameK_bits (ε := ε) hsame 9999
        have hbk : BlkOk (Dn st.next) ε id (.map (lset mm.1 (k, v, e.2.2.2) e.1) mm.2) (.map ((mm.1.map (gEnt ε)).toArray.modify e.1 fun x => { x with key := g ε k, val := g ε v }) mm.2) := by
          refine ⟨?_, fun z hz => ?_⟩
          · rw [map_set mm.1 e.1 e.2 k v hat, lset_eq]
          · rw [lset_eq] at hz
            rcases List.mem_or_eq_of_mem_set hz with hz | hz
            · exact g3 z hz
            · rw [hz]; exact ⟨hkok, hvok⟩
        refine LRes.skip (ε' := ε) (w' := _) ?_ (After.put (w' := { w with heap := w.heap.setIfInBounds (ε.blk id) (.map ((mm.1.map (gEnt ε)).toArray.modify e.1 fun x => { x with key := g ε k, val := g ε v }) mm.2) }) c.sim hb hbm hbk rfl ⟨rfl, rfl, rfl⟩) rfl rfl
        have hold : ((((mm.1.map (gEnt ε)).toArray[e.1]?).map (·.key)).getD (g ε k)) = g ε e.2.1 := by simp [hat, gEnt]
        have hstay : (Instr.keyThatStays (g ε e.2.1) (g ε k)).run P w = .ok (g ε k) w := by
          simp only [Instr.keyThatStays]
          rw [show Instr.sameBits 10000 (g ε e.2.1) (g ε k) = true from hbits]
          rfl
        simp only [Instr.mapUpdate, Sem.run_bind, hru, Result.andThen_ok, h1, h2, h3, g, hget, hchk, f1, Option.map_some, hold, hstay, hset, Sem.run_pure]
      · cases hput'
  · cases hput

end ops
end Go.Proofs.YtbcnedhhebjhdaaGreatDoor.Fa

/-
  Loud operations against the model's: iterators' steps, deletes, clears.
-/
namespace Go.Proofs.YtbcnedhhebjhdaaGreatDoor.Fa

section ops
variable {P : Program} {E : Env0} {ε : Env} {st : St} {w : World} {a : Act} {lc : Lc} {fr : Tr AV} {l : List Nat} {r : AV × St}

theorem memN_eq (n : Nat) (l : List Nat) : memN n l = l.contains n := by
  induction l with
  | nil => rfl
  | cons a l ih =>
    show bi (Nat.beq a n) true (memN n l) = _
    rw [ih, bi_eq, nbeq, List.contains_cons]
    by_cases h : a = n
    · simp [h]
    · simp [h, Ne.symm h]
theorem leftOf_eq (ε : Env) (seen : List Nat) : ∀ es : List Ent, (es.map (gEnt ε)).filter (fun e => !seen.contains e.born) = (leftOf seen es).map (gEnt ε) ∧ ∀ e ∈ leftOf seen es, e ∈ es := by
  intro es
  induction es with
  | nil => exact ⟨rfl, fun e he => by cases he⟩
  | cons e es ih =>
    have hd : leftOf seen (e :: es) = bi (memN e.2.2 seen) (leftOf seen es) (e :: leftOf seen es) := rfl
    rw [hd, bi_eq, memN_eq]
    rw [List.map_cons, List.filter_cons]
    have hb : (gEnt ε e).born = e.2.2 := rfl
    rw [hb]
    cases hc : seen.contains e.2.2 with
    | true => simp only [Bool.not_true, Bool.false_eq_true, if_false, if_true]; exact ⟨ih.1, fun x hx => List.mem_cons_of_mem _ (ih.2 x hx)⟩
    | false =>
      simp only [Bool.not_false, if_true, Bool.false_eq_true, if_false, List.map_cons]
      refine ⟨by rw [ih.1], fun x hx => ?_⟩
      rcases List.mem_cons.1 hx with hx | hx
      · rw [hx]; exact List.mem_cons_self
      · exact List.mem_cons_of_mem _ (ih.2 x hx)
theorem allFrom_eq (ε : Env) (last : Nat) : ∀ es : List Ent, (es.map (gEnt ε)).all (fun e => decide (e.born ≥ last)) = allFrom last es := by
  intro es
  induction es with
  | nil => rfl
  | cons e es ih =>
    have hd : allFrom last (e :: es) = bi (Nat.ble last e.2.2) (allFrom last es) false := rfl
    rw [hd, bi_eq, List.map_cons, List.all_cons, ih]
    have hb : (gEnt ε e).born = e.2.2 := rfl
    rw [hb]
    by_cases h : last ≤ e.2.2
    · simp [h]
    · simp [h]

theorem nextStr_ok (c : OpAt P E (Dn st.next) ε st.heap st.next w a lc fr l) (ty : TypeId) {id pos : Nat} {z : List UInt8} (hb : st.heap.find id = some (.strIter z pos)) (hf : nextStr st id z pos = some r) :
    LRes ε st w r ((do pure (.value (← Instr.next (g ε (.ptr id 0)) true ty)) : Sem Next).run P w) := by
  obtain ⟨o, ho, rfl, hz⟩ := c.sim.obj id _ hb
  have hget := run_getObj P w ho (by intro c T fz hh; cases hh)
  have e1 : (⟨z.toArray⟩ : ByteArray).size = llen z := by rw [llen_eq]; rfl
  unfold nextStr at hf
  rw [bi_eq] at hf
  split at hf
  · rename_i hlt
    have hlt' : pos < llen z := by rw [Nat.blt_eq] at hlt; exact hlt
    injection hf with hf
    subst hf
    have hset := fun o' => run_setObj P w (o' := o') ho (by intro c T fz hh; cases hh)
    refine LRes.value (ε' := ε) (w' := { w with heap := w.heap.setIfInBounds (ε.blk id) (.stringIter ⟨z.toArray⟩ (pos + (Utf8.decode ⟨z.toArray⟩ pos).2)) }) ?_ (by simp only [runeT, okv]; intro x hx; simp at hx; rcases hx with rfl | rfl | rfl <;> simp [okv])
      (After.put c.sim hb rfl ⟨rfl, hz⟩ rfl ⟨rfl, rfl, rfl⟩) rfl rfl
    simp only [Instr.next, g, hz, Nat.zero_add, Sem.run_bind, hget, Result.andThen_ok, e1, if_pos hlt', hset, Sem.run_pure]
    simp [runeT, g, goInt]
  · rename_i hlt
    have hlt' : ¬ pos < llen z := fun h' => hlt (by rw [Nat.blt_eq]; exact h')
    injection hf with hf
    subst hf
    refine LRes.value (ε' := ε) (w' := w) ?_ (by simp only [overT, okv]; intro x hx; simp at hx; rw [hx]; simp [okv]) (.refl c.sim) rfl rfl
    simp only [Instr.next, g, hz, Nat.zero_add, Sem.run_bind, hget, Result.andThen_ok, e1, if_neg hlt', Sem.run_pure]
    simp [overT, g]

theorem nextMap_ok (c : OpAt P E (Dn st.next) ε st.heap st.next w a lc fr l) (ty : TypeId) {id m since last : Nat} {seen : List Nat} (hb : st.heap.find id = some (.mapIter (some m) since seen last)) (hf : nextMap st id m since seen last = some r) :
    LRes ε st w r ((do pure (.value (← Instr.next (g ε (.ptr id 0)) false ty)) : Sem Next).run P w) := by
  obtain ⟨o, ho, ⟨rfl, hz⟩, hm⟩ := c.sim.obj id _ hb
  have hget := run_getObj P w ho (by intro c T fz hh; cases hh)
  unfold nextMap at hf
  rw [ob_eq_some] at hf
  obtain ⟨y, hy, hf⟩ := hf
  obtain ⟨g1, g2, g3⟩ := mapAt_ok c.sim hy
  have hgm := run_getObj P w g1 (by intro c T fz hh; cases hh)
  rw [bi_eq] at hf
  split at hf
  · cases hf
  · rename_i hcond
    simp only [andb_eq, notb_eq, isNilL_eq] at hcond
    have hcond' : (!seen.toArray.isEmpty && !(y.1.map (gEnt ε)).toArray.isEmpty && (y.1.map (gEnt ε)).toArray.all (fun e => decide (e.born ≥ last))) = false := by
      have h1 : seen.toArray.isEmpty = seen.isEmpty := by simp
      have h2 : (y.1.map (gEnt ε)).toArray.isEmpty = y.1.isEmpty := by simp
      have h3 : (y.1.map (gEnt ε)).toArray.all (fun e => decide (e.born ≥ last)) = allFrom last y.1 := by rw [← allFrom_eq ε]; simp
      rw [h1, h2, h3]
      simpa [Bool.and_assoc] using hcond
    obtain ⟨l1, l2⟩ := leftOf_eq ε seen y.1
    have hleft : (y.1.map (gEnt ε)).toArray.filter (fun e => !seen.toArray.contains e.born) = ((leftOf seen y.1).map (gEnt ε)).toArray := by
      rw [← l1]
      simp
    cases hl : leftOf seen y.1 with
    | nil =>
      rw [hl] at hf hleft
      have hf' : done overT st = some r := hf
      injection hf' with hf'
      subst hf'
      refine LRes.value (ε' := ε) (w' := w) ?_ (by simp only [overT, okv]; intro x hx; simp at hx; rw [hx]; simp [okv]) (.refl c.sim) rfl rfl
      simp only [Instr.next, g, hz, Nat.zero_add, Sem.run_bind, hget, Result.andThen_ok, Option.map_some, hgm, hcond', Bool.false_eq_true, if_false, hleft, Sem.run_pure]
      simp [overT, g, Question.forced]
    | cons e t =>
      rw [hl] at hf hleft
      have hf' : bi (andb (isNilL t) (Nat.blt e.2.2 since)) (done (.tup [.bool true, e.1, e.2.1]) (putHeap st (st.heap.set id (some (.mapIter (some m) since (lapp seen [e.2.2]) y.2))))) none = some r := hf
      rw [bi_eq] at hf'
      split at hf'
      · rename_i hc2
        simp only [andb_eq, isNilL_eq, Bool.and_eq_true] at hc2
        have ht : t = [] := by simpa using hc2.1
        have hlt : e.2.2 < since := by have := hc2.2; rw [Nat.blt_eq] at this; exact this
        subst ht
        injection hf' with hf'
        subst hf'
        have heok := g3 e (l2 e (by rw [hl]; exact List.mem_cons_self))
        have hset := fun o' => run_setObj P w (o' := o') ho (by intro c T fz hh; cases hh)
        refine LRes.value (ε' := ε) (w' := { w with heap := w.heap.setIfInBounds (ε.blk id) (.mapIter (some (ε.blk m)) since (seen.toArray.push e.2.2) y.2) }) ?_
          (by simp only [okv]; intro x hx; simp at hx; rcases hx with rfl | rfl | rfl <;> first | exact heok.1 | exact heok.2 | simp [okv])
          (After.put c.sim hb rfl ⟨⟨by simp, hz⟩, hm⟩ rfl ⟨rfl, rfl, rfl⟩) rfl rfl
        have hb2 : (gEnt ε e).born = e.2.2 := rfl
        simp only [Instr.next, g, hz, Nat.zero_add, Sem.run_bind, hget, Result.andThen_ok, Option.map_some, hgm, hcond', Bool.false_eq_true, if_false, hleft, Sem.run_pure]
        have hold : ([e].map (gEnt ε)).toArray.filter (fun x => decide (x.born < since)) = #[gEnt ε e] := by simp [hb2, hlt]
        have hnew : ([e].map (gEnt ε)).toArray.filter (fun x => decide (x.born ≥ since)) = #[] := by simp [hb2]; omega
        rw [hold, hnew]
        simp [Question.forced, hset, hb2]
        simp [gEnt, g]
      · cases hf'

theorem lNext_ok (c : OpAt P E (Dn st.next) ε st.heap st.next w a lc fr l) (str : Bool) (x : Operand) (ty : TypeId) (hx : ∀ u, x = .tmp u → u ∈ l) (hf : lNext str (cOpd x) lc fr st = some r) :
    LRes ε st w r ((do pure (.value (← Instr.next (a.eval x) str ty)) : Sem Next).run P w) := by
  unfold lNext at hf
  rw [ob_eq_some] at hf
  obtain ⟨v, hv, hf⟩ := hf
  obtain ⟨h1, _⟩ := c.gt hv hx
  obtain ⟨id, o, rfl, hf2⟩ := onPtr_some hf
  clear hf
  rw [bi_eq] at hf2
  split at hf2
  · rename_i ho
    rw [nbeq] at ho
    have ho' : o = 0 := by simpa using ho
    subst ho'
    rw [ob_eq_some] at hf2
    obtain ⟨b, hb, hf2⟩ := hf2
    rw [h1]
    cases b <;> first | (cases hf2; done) | skip
    · rename_i z pos
      have hf3 : bi str (nextStr st id z pos) none = some r := hf2
      cases str with
      | true => exact nextStr_ok c ty hb hf3
      | false => cases hf3
    · rename_i m since seen last
      cases m with
      | none =>
        have hf3 : bi str none (done overT st) = some r := hf2
        cases str with
        | true => cases hf3
        | false =>
          have hf4 : done overT st = some r := hf3
          injection hf4 with hf4
          subst hf4
          obtain ⟨o, ho, ⟨rfl, hz⟩, hm⟩ := c.sim.obj id _ hb
          have hget := run_getObj P w ho (by intro c T fz hh; cases hh)
          refine LRes.value (ε' := ε) (w' := w) ?_ (by simp only [overT, okv]; intro x hx; simp at hx; rw [hx]; simp [okv]) (.refl c.sim) rfl rfl
          simp only [Instr.next, g, hz, Nat.zero_add, Sem.run_bind, hget, Result.andThen_ok, Option.map_none, Sem.run_pure]
          simp [overT, g]
      | some m =>
        have hf3 : bi str none (nextMap st id m since seen last) = some r := hf2
        cases str with
        | true => cases hf3
        | false => exact nextMap_ok c ty hb hf3
  · cases hf2

end ops
end Go.Proofs.YtbcnedhhebjhdaaGreatDoor.Fa

/-
  Loud operations against the model's: deletes, clears, copies.
-/
namespace Go.Proofs.YtbcnedhhebjhdaaGreatDoor.Fa

theorem set_same {α : Type} {xs : Array α} {i : Nat} {o : α} (h : xs[i]? = some o) : xs.setIfInBounds i o = xs := by
  refine Array.ext (by simp) fun k h1 h2 => ?_
  rw [Array.getElem_setIfInBounds]
  split
  · rename_i he
    subst he
    rw [Array.getElem?_eq_getElem h2] at h
    injection h with h
    exact h.symm
  · rfl

theorem map_erase {α β : Type} (f : α → β) : ∀ (l : List α) (i : Nat), (l.map f).eraseIdx i = (l.eraseIdx i).map f := by
  intro l
  induction l with
  | nil => intro i; rfl
  | cons a l ih => intro i; cases i with
    | zero => rfl
    | succ i => simp [ih]

section ops
variable {P : Program} {E : Env0} {ε : Env} {st : St} {w : World} {a : Act} {lc : Lc} {fr : Tr AV} {l : List Nat} {r : AV × St}

theorem mapAt_there {h : Heap} {id : Nat} {y : List Ent × Nat} (hy : mapAt h id = some y) : h.find id = some (.map y.1 y.2) := by
  unfold mapAt at hy
  rw [ob_eq_some] at hy
  obtain ⟨b, hb, hy⟩ := hy
  cases b <;> first | (cases hy; done) | skip
  injection hy with hy
  subst hy
  exact hb

theorem cDelete_ok (c : OpAt P E (Dn st.next) ε st.heap st.next w a lc fr l) (ts : Array TypeId) (ty : TypeId) (x y : Operand) (hx : ∀ u, x = .tmp u → u ∈ l) (hy : ∀ u, y = .tmp u → u ∈ l) {f : LF} (hq : cDelete E ts.toList x y = some f) (hf : f lc fr st = some r) :
    LRes ε st w r ((do pure (.value (← Builtin.delete_ ts ty #[a.eval x, a.eval y])) : Sem Next).run P w) := by
  unfold cDelete at hq
  rw [ob_eq_some] at hq
  obtain ⟨t, ht, hq⟩ := hq
  rw [lget_eq, Array.getElem?_toList] at ht
  rw [ob_eq_some] at hq
  obtain ⟨i, hi, hq⟩ := hq
  obtain ⟨d, hd, he, hru⟩ := (c.env.tyOk hi).run_underlying
  rw [he] at hq
  obtain ⟨kt, et, rfl, hq2⟩ := onMapD_some hq
  clear hq
  injection hq2 with hq2
  subst hq2
  unfold lDelete at hf
  rw [ob_eq_some] at hf
  obtain ⟨m, hm, hf⟩ := hf
  obtain ⟨h1, _⟩ := c.gt hm hx
  rw [ob_eq_some] at hf
  obtain ⟨k, hk, hf⟩ := hf
  obtain ⟨h2, hkok⟩ := c.gt hk hy
  rw [bi_eq] at hf
  split at hf
  · rename_i hko
    have hchk := fun emp => keyOk_ok (P := P) (w := w) c.env emp 9 10000 (by omega) kt k hkok hko
    have hok0 : okv (Dn st.next) ε (.tup []) := by simp [okv]
    rcases onMap_some hf with ⟨rfl, hf2⟩ | ⟨id, rfl, hf2⟩
    · injection hf2 with hf2
      subst hf2
      refine LRes.value (ε' := ε) (w' := w) ?_ hok0 (.refl c.sim) rfl rfl
      simp [Builtin.delete_, ht, hru, h1, h2, g, hchk]
    · rw [ob_eq_some] at hf2
      obtain ⟨mm, hmm, hf3⟩ := hf2
      rw [ob_eq_some] at hf3
      obtain ⟨fd, hfind, hf4⟩ := hf3
      obtain ⟨g1, g2, g3⟩ := mapAt_ok c.sim hmm
      have hb := mapAt_there hmm
      obtain ⟨d2, hd2⟩ := kt_run c.env hko w
      obtain ⟨f1, f2⟩ := findKey_ok (P := P) (w := w) c.env hkok g3 hfind hd2
      have hget := run_getObj P w g1 (by intro c T fz hh; cases hh)
      have hset := fun o' => run_setObj P w (o' := o') g1 (by intro c T fz hh; cases hh)
      have f3 : (Instr.findKey kt (g ε k) (mm.1.map (gEnt ε)).toArray.toList).run P w = _ := f1
      cases fd with
      | none =>
        have hf5 : done .undef st = some r := hf4
        injection hf5 with hf5
        subst hf5
        refine LRes.value (ε' := ε) (w' := { w with heap := w.heap.setIfInBounds (ε.blk id) (.map (mm.1.map (gEnt ε)).toArray mm.2) }) ?_ hok0 (.os_only c.sim (set_same g1) ⟨rfl, rfl, rfl⟩) rfl rfl
        simp only [Builtin.delete_, List.getElem?_toArray, List.getElem?_cons_zero, List.getElem?_cons_succ, ht, Sem.run_bind, hru, Result.andThen_ok, h1, h2, g, hget, hchk, f3, Option.map_none, hset, Sem.run_pure]
        simp
      | some e =>
        have hf5 : doneH st (putMap st.heap id (lerase mm.1 e.1) mm.2) = some r := hf4
        injection hf5 with hf5
        subst hf5
        have hbk : BlkOk (Dn st.next) ε id (.map (lerase mm.1 e.1) mm.2) (.map ((mm.1.map (gEnt ε)).toArray.eraseIdxIfInBounds e.1) mm.2) := by
          refine ⟨?_, fun z hz => ?_⟩
          · congr 1
            apply Array.ext'
            simp [map_erase]
          · rw [lerase_eq] at hz
            exact g3 z (List.mem_of_mem_eraseIdx hz)
        refine LRes.value (ε' := ε) (w' := { w with heap := w.heap.setIfInBounds (ε.blk id) (.map ((mm.1.map (gEnt ε)).toArray.eraseIdxIfInBounds e.1) mm.2) }) ?_ hok0 (After.put c.sim hb rfl hbk rfl ⟨rfl, rfl, rfl⟩) rfl rfl
        simp only [Builtin.delete_, List.getElem?_toArray, List.getElem?_cons_zero, List.getElem?_cons_succ, ht, Sem.run_bind, hru, Result.andThen_ok, h1, h2, g, hget, hchk, f3, Option.map_some, hset, Sem.run_pure]
        simp
  · cases hf

theorem zeroCells_rep (z : List Value) (n : Nat) : Builtin.zeroCells z.toArray n = (List.replicate n z).flatten.toArray := by
  unfold Builtin.zeroCells
  exact range_rep z n _ (by simp)

theorem cClear_ok (c : OpAt P E (Dn st.next) ε st.heap st.next w a lc fr l) (ts : Array TypeId) (ty : TypeId) (x : Operand) (hx : ∀ u, x = .tmp u → u ∈ l) {f : LF} (hq : cClear E ts.toList x = some f) (hf : f lc fr st = some r) :
    LRes ε st w r ((do pure (.value (← Builtin.clear_ ts ty #[a.eval x])) : Sem Next).run P w) := by
  unfold cClear at hq
  rw [ob_eq_some] at hq
  obtain ⟨t, ht, hq⟩ := hq
  rw [lget_eq, Array.getElem?_toList] at ht
  rw [ob_eq_some] at hq
  obtain ⟨i, hi, hq⟩ := hq
  obtain ⟨d, hd, he, hru⟩ := (c.env.tyOk hi).run_underlying
  rw [he] at hq
  have hok0 : okv (Dn st.next) ε (.tup []) := by simp [okv]
  cases d with
  | map kt et =>
    have hq2 : some (lClearMap (cOpd x)) = some f := hq
    injection hq2 with hq2
    subst hq2
    unfold lClearMap at hf
    rw [ob_eq_some] at hf
    obtain ⟨m, hm, hf⟩ := hf
    obtain ⟨h1, _⟩ := c.gt hm hx
    rcases onMap_some hf with ⟨rfl, hf2⟩ | ⟨id, rfl, hf2⟩
    · injection hf2 with hf2
      subst hf2
      refine LRes.value (ε' := ε) (w' := w) ?_ hok0 (.refl c.sim) rfl rfl
      simp [Builtin.clear_, ht, hru, h1, g]
    · rw [ob_eq_some] at hf2
      obtain ⟨mm, hmm, hf3⟩ := hf2
      injection hf3 with hf3
      subst hf3
      obtain ⟨g1, g2, g3⟩ := mapAt_ok c.sim hmm
      have hb := mapAt_there hmm
      have hget := run_getObj P w g1 (by intro c T fz hh; cases hh)
      have hset := fun o' => run_setObj P w (o' := o') g1 (by intro c T fz hh; cases hh)
      refine LRes.value (ε' := ε) (w' := { w with heap := w.heap.setIfInBounds (ε.blk id) (.map #[] mm.2) }) ?_ hok0 (After.put c.sim hb rfl ⟨rfl, fun e he => by cases he⟩ rfl ⟨rfl, rfl, rfl⟩) rfl rfl
      simp only [Builtin.clear_, List.getElem?_toArray, List.getElem?_cons_zero, ht, Sem.run_bind, hru, Result.andThen_ok, h1, g, hget, hset, Sem.run_pure]
      simp
  | slice e =>
    have hq2 : ob (zeroCells E e) (fun z => some (lClearSl z (cOpd x))) = some f := hq
    rw [ob_eq_some] at hq2
    obtain ⟨z, hz, hq2⟩ := hq2
    injection hq2 with hq2
    subst hq2
    obtain ⟨j', v, hj', hzv, hvc, hzc, hzl⟩ := zeroCells_ok (ε := ε) (D := Dn st.next) c.env hz
    unfold lClearSl at hf
    rw [ob_eq_some] at hf
    obtain ⟨m, hm, hf⟩ := hf
    obtain ⟨h1, _⟩ := c.gt hm hx
    rcases onSlc_some hf with ⟨rfl, hf2⟩ | ⟨id, off, n, cp, rfl, hf2⟩ | h
    · injection hf2 with hf2
      subst hf2
      refine LRes.value (ε' := ε) (w' := w) ?_ hok0 (.refl c.sim) rfl rfl
      simp [Builtin.clear_, ht, hru, h1, g]
    · rw [ob_eq_some] at hf2
      obtain ⟨h', hw, hf3⟩ := hf2
      injection hf3 with hf3
      subst hf3
      obtain ⟨w', hr, ha⟩ := writeCells_ok P c.sim (hzc.rep n) hw
      refine LRes.value (ε' := ε) (w' := w') ?_ hok0 ha rfl rfl
      cases n with
      | zero =>
        have : w' = w := by
          have hr' : Result.ok () w = Result.ok () w' := hr
          injection hr' with _ hr'
          exact hr'.symm
        subst this
        simp [Builtin.clear_, ht, hru, h1, g]
      | succ n =>
        simp only [Builtin.clear_, List.getElem?_toArray, List.getElem?_cons_zero, ht, Sem.run_bind, hru, Result.andThen_ok, h1, g, hzv, hvc, zeroCells_rep]
        rw [← lrep_map, hr]
        simp
    · cases h
  | _ => cases hq

/-! ### Copies -/
theorem minN_eq (a b : Nat) : minN a b = Nat.min a b := by
  unfold minN
  rw [bi_eq]
  by_cases h : a ≤ b
  · rw [if_pos (by simpa using h)]; exact (Nat.min_eq_left h).symm
  · rw [if_neg (by simpa using h)]; exact (Nat.min_eq_right (by omega)).symm
theorem bytesCells_map (b : List UInt8) : (bytesCells b).map (g ε) = b.map fun c => Value.int .u8 (c.toNat : Int) := by
  rw [bytesCells_eq, List.map_map]
  apply List.map_congr_left
  intro c _
  simp [g]
theorem bytesCells_ok {D : Nat → Prop} (b : List UInt8) : CellsOk D ε (bytesCells b) := by
  intro c hc
  rw [bytesCells_eq] at hc
  obtain ⟨z, _, rfl⟩ := List.mem_map.1 hc
  simp [okv, one1]
theorem onStr_some' {α : Type} {k : List UInt8 → Option α} {v : AV} {r : α} (h : onStr none k v = some r) : ∃ s, v = .str s ∧ k s = some r := by cases v <;> first | (cases h; done) | exact ⟨_, rfl, h⟩

theorem firstOf_ok (P : Program) {D : Nat → Prop} {h : Heap} (hs : Sim D ε h.find w) {s n k : Nat} {x : AV} {cs : List AV} (hf : firstOf s h x n = some (cs, k)) :
    (∃ m, (Builtin.lenOf (g ε x)).run P w = .ok m w ∧ k = Nat.min m n) ∧ (Builtin.firstCells s k (g ε x)).run P w = .ok (cs.map (g ε)).toArray w ∧ CellsOk D ε cs := by
  unfold firstOf at hf
  rcases onSlc_some hf with ⟨rfl, hf2⟩ | ⟨id, off, m, cp, rfl, hf2⟩ | hf2
  · injection hf2 with hf2
    injection hf2 with h1 h2
    subst h1; subst h2
    exact ⟨⟨0, by simp [Builtin.lenOf, g], by simp⟩, by simp [Builtin.firstCells, g], fun c hc => by cases hc⟩
  · rw [ob_eq_some] at hf2
    obtain ⟨cs', hcs, hf2⟩ := hf2
    injection hf2 with hf2
    injection hf2 with h1 h2
    subst h1; subst h2
    obtain ⟨h3, h4, _⟩ := readCells_ok (P := P) hs hcs
    refine ⟨⟨m, by simp [Builtin.lenOf, g], minN_eq m n⟩, ?_, h4⟩
    simp only [Builtin.firstCells, g]
    exact h3
  · obtain ⟨b, rfl, hf3⟩ := onStr_some' hf2
    rw [ob_eq_some] at hf3
    obtain ⟨r, hr, hf3⟩ := hf3
    injection hf3 with hf3
    injection hf3 with h1 h2
    subst h1; subst h2
    rw [ltake_eq] at hr
    split at hr
    · injection hr with hr
      have e1 : (⟨b.toArray⟩ : ByteArray).size = b.length := rfl
      refine ⟨⟨b.length, by simp [Builtin.lenOf, g, e1], by rw [minN_eq, llen_eq]⟩, ?_, bytesCells_ok _⟩
      simp only [Builtin.firstCells, g, Sem.run_pure, bytesCells_map, ← hr]
      congr 1
      apply Array.ext'
      simp [ByteArray.data_extract, List.extract]
    · cases hr

theorem cCopy_ok (c : OpAt P E (Dn st.next) ε st.heap st.next w a lc fr l) (ts : Array TypeId) (ty : TypeId) (x y : Operand) (hx : ∀ u, x = .tmp u → u ∈ l) (hy : ∀ u, y = .tmp u → u ∈ l) {f : LF} (hq : cCopy E ts.toList x y = some f) (hf : f lc fr st = some r) :
    LRes ε st w r ((do pure (.value (← Builtin.copy_ ts ty #[a.eval x, a.eval y])) : Sem Next).run P w) := by
  unfold cCopy at hq
  rw [ob_eq_some] at hq
  obtain ⟨t, ht, hq⟩ := hq
  rw [lget_eq, Array.getElem?_toList] at ht
  rw [ob_eq_some] at hq
  obtain ⟨i, hi, hq⟩ := hq
  obtain ⟨d, hd, he, hru⟩ := (c.env.tyOk hi).run_underlying
  rw [he] at hq
  obtain ⟨e, rfl, hq2⟩ := onSliceD_some hq
  clear hq
  rw [ob_eq_some] at hq2
  obtain ⟨s, hs, hq2⟩ := hq2
  injection hq2 with hq2
  subst hq2
  have hsz := fun w => c.env.run_size hs w
  unfold lCopy at hf
  rw [ob_eq_some] at hf
  obtain ⟨dv, hdv, hf⟩ := hf
  obtain ⟨h1, _⟩ := c.gt hdv hx
  have hok0 : okv (Dn st.next) ε (.int .i64 0) := by simp [okv]
  rcases onSlc_some hf with ⟨rfl, hf2⟩ | ⟨id, off, n, cp, rfl, hf2⟩ | h
  · rw [ob_eq_some] at hf2
    obtain ⟨xv, hxv, hf3⟩ := hf2
    obtain ⟨h2, _⟩ := c.gt hxv hy
    have hr : r = (.int .i64 0, st) := by
      rcases onSlc_some hf3 with ⟨_, h⟩ | ⟨_, _, _, _, _, h⟩ | h
      · injection h with h; exact h.symm
      · injection h with h; exact h.symm
      · obtain ⟨_, _, h⟩ := onStr_some' h
        injection h with h; exact h.symm
    subst hr
    refine LRes.value (ε' := ε) (w' := w) ?_ hok0 (.refl c.sim) rfl rfl
    have hlen : ∃ m, (Builtin.lenOf (g ε xv)).run P w = .ok m w ∧ ∃ cs, (Builtin.firstCells s 0 (g ε xv)).run P w = .ok cs w := by
      rcases onSlc_some hf3 with ⟨rfl, _⟩ | ⟨_, _, m, _, rfl, _⟩ | h
      · exact ⟨0, by simp [Builtin.lenOf, g], #[], by simp [Builtin.firstCells, g]⟩
      · exact ⟨m, by simp [Builtin.lenOf, g], #[], by simp [Builtin.firstCells, g, loadCells, loadCellsFrom]⟩
      · obtain ⟨b, rfl, _⟩ := onStr_some' h
        exact ⟨_, by simp only [Builtin.lenOf, g]; rfl, _, by simp only [Builtin.firstCells, g]; rfl⟩
    obtain ⟨m, hm, cs, hcs⟩ := hlen
    simp only [Builtin.copy_, List.getElem?_toArray, List.getElem?_cons_zero, List.getElem?_cons_succ, ht, Sem.run_bind, hru, Result.andThen_ok, h1, h2, g, hm, hsz]
    rw [show Nat.min m 0 = 0 from Nat.min_zero m, hcs]
    simp [goInt]
  · rw [ob_eq_some] at hf2
    obtain ⟨xv, hxv, hf3⟩ := hf2
    obtain ⟨h2, _⟩ := c.gt hxv hy
    rw [ob_eq_some] at hf3
    obtain ⟨⟨cs, k⟩, hfo, hf3⟩ := hf3
    rw [ob_eq_some] at hf3
    obtain ⟨h', hw, hf3⟩ := hf3
    injection hf3 with hf3
    subst hf3
    obtain ⟨⟨m, hm, hk⟩, hcells, hcok⟩ := firstOf_ok P c.sim hfo
    obtain ⟨w', hr, ha⟩ := writeCells_ok P c.sim hcok hw
    refine LRes.value (ε' := ε) (w' := w') ?_ (by simp [okv]) ha rfl rfl
    rw [hk] at hcells
    simp only [Builtin.copy_, List.getElem?_toArray, List.getElem?_cons_zero, List.getElem?_cons_succ, ht, Sem.run_bind, hru, Result.andThen_ok, h1, h2, g, hm, hsz, hcells]
    rw [hr]
    simp [goInt, hk]
  · cases h

end ops
end Go.Proofs.YtbcnedhhebjhdaaGreatDoor.Fa

/-
  Loud operations against the model's: appends.
-/
namespace Go.Proofs.YtbcnedhhebjhdaaGreatDoor.Fa

theorem growBy_le (N : Nat) : ∀ (k c : Nat), c ≤ 2 * N + 2000 → Builtin.growBy N k c ≤ 2 * N + 2000 := by
  intro k
  induction k with
  | zero => intro c h; exact h
  | succ k ih =>
    intro c h
    rw [Builtin.growBy]
    split
    · exact h
    · refine ih _ ?_
      omega
theorem nextslicecap_le (N c : Nat) (h : c < N) : Builtin.nextslicecap N c ≤ 2 * N + 2000 := by
  unfold Builtin.nextslicecap
  split
  · omega
  · split
    · omega
    · exact growBy_le N 4 c (by omega)

/-- Of fewer blocks. -/
theorem After.weaken {ε ε' : Env} {h h1 h' : Heap} {n n' : Nat} {w w' : World} (hl : ∀ id b, h1.find id = some b → h.find id = some b) (a : After ε h1 n w ε' h' n' w') : After ε h n w ε' h' n' w' where
  le := a.le
  agree := a.agree
  sim := a.sim
  os := a.os
  size := a.size
  frame k hk hn := a.frame k hk fun id x hx hr => hn id x (hl id x hx) hr
  orig id x hx := by
    rcases a.orig id x hx with h0 | ⟨id0, x0, h0, hr0, he⟩
    · exact .inl h0
    · exact .inr ⟨id0, x0, hl id0 x0 h0, hr0, he⟩

theorem drop_less {h : Heap} {id : Nat} : ∀ i b, (h.set id none).find i = some b → h.find i = some b := by
  intro i b hb
  rw [Tr.find_set] at hb
  split at hb
  · cases hb
  · exact hb

/-- A block that takes another name, written. -/
theorem After.move {ε ε' : Env} {h : Heap} {n : Nat} {w w' : World} (hs : Sim (Dn n) ε h.find w) {id : Nat} {b b' : ABlk} {o : Obj} (hb : h.find id = some b) (hr : notRo b = true) (ha : Agree (Dn n) ε ε') (hblk : ε'.blk n = ε.blk id) (ho : BlkOk (Dn (n + 1)) ε' n b' o)
    (hw : w'.heap = w.heap.setIfInBounds (ε.blk id) o) (hos : SameOs w w') : After ε h n w ε' ((h.set id none).set n (some b')) (n + 1) w' where
  le := by omega
  agree := ha
  sim := by
    have hlt := hs.lt hb
    have hid : id < n := hs.there id b hb
    have hs' := hs.agree (D' := Dn (n + 1)) ha fun i hi => Nat.lt_succ_of_lt hi
    have hblk2 : ε'.blk n = ε'.blk id := by rw [hblk, (ha id hid).1]
    have hne : ∀ i c, (h.set id none).find i = some c → i ≠ id ∧ h.find i = some c := by
      intro i c hc
      rw [Tr.find_set] at hc
      split at hc
      · cases hc
      · rename_i h1; exact ⟨fun h2 => h1 h2.symm, hc⟩
    refine ⟨fun i c hc => ?_, fun i c hc => ?_, fun i j c d hc hd he => ?_⟩
    · rw [Tr.find_set] at hc
      split at hc
      · rename_i h1; subst h1; exact Nat.lt_succ_self _
      · exact hs'.there i c (hne i c hc).2
    · rw [Tr.find_set] at hc
      split at hc
      · rename_i h1
        subst h1
        injection hc with hc
        subst hc
        exact ⟨o, by rw [hw, hblk]; simp [hlt], ho⟩
      · obtain ⟨h1, h2⟩ := hne i c hc
        obtain ⟨x, hx, hok⟩ := hs'.obj i c h2
        have hne2 : ε.blk id ≠ ε'.blk i := fun he => h1 (hs'.inj i id c b h2 hb (by rw [← he, (ha id hid).1]))
        exact ⟨x, by rw [hw, Array.getElem?_setIfInBounds_ne hne2]; exact hx, hok⟩
    · rw [Tr.find_set] at hc hd
      split at hc
      · rename_i h1
        subst h1
        split at hd
        · rename_i h2; exact h2
        · obtain ⟨h3, h4⟩ := hne j d hd
          exact absurd (hs'.inj j id d b h4 hb (by rw [← he, hblk2])) h3
      · obtain ⟨h3, h4⟩ := hne i c hc
        split at hd
        · rename_i h2; subst h2; exact absurd (hs'.inj i id c b h4 hb (by rw [he, hblk2])) h3
        · exact hs'.inj i j c d h4 (hne j d hd).2 he
  os := hos
  size := by rw [hw]; simp
  frame k _ hn := by rw [hw, Array.getElem?_setIfInBounds_ne (hn id b hb hr)]
  orig i x hx := by
    rw [Tr.find_set] at hx
    split at hx
    · rename_i h1; subst h1; exact .inr ⟨id, b, hb, fun _ => hr, hblk.symm⟩
    · have hx2 := drop_less i x hx
      have hi : i < n := hs.there i x hx2
      exact .inr ⟨i, x, hx2, fun h => h, (ha i hi).1.symm⟩

section ops
variable {P : Program} {E : Env0} {ε : Env} {st : St} {w : World} {a : Act} {lc : Lc} {fr : Tr AV} {l : List Nat} {r : AV × St}

/-- What is appended, as the model takes it. -/
structure Appd (P : Program) (w : World) (ts : Array TypeId) (e : TypeId) (info : TypeInfo) (x : Value) (n : Nat) (cs : Array Value) : Prop where
  type : ∃ xt d, ts[1]? = some xt ∧ (∀ w, (underlying xt).run P w = .ok d w) ∧
    ((∀ k, d ≠ .int k) ∧ (Builtin.lenOf x).run P w = .ok n w ∧ (∀ w', w'.heap = w.heap → (Builtin.firstCells info.size n x).run P w' = .ok cs w') ∨
     (∃ k, d = .int k) ∧ (∃ k, x = .int k (n : Int)) ∧ n ≤ 1000000000 ∧ ∃ v, (∀ w, (zeroValue e).run P w = .ok v w) ∧ v.cells.size = info.size ∧ cs = Builtin.zeroCells v.cells n)

theorem run_append (ts : Array TypeId) (t ty e : TypeId) (info : TypeInfo) (zv : Value) (base : Option Addr) (len cap n : Nat) (x : Value) (cs : Array Value)
    (ht : ts[0]? = some t) (hru : ∀ w, (underlying t).run P w = .ok (.slice e) w) (hri : ∀ w, (typeInfo e).run P w = .ok info w) (hzv : info.zero = some zv) (hx : Appd P w ts e info x n cs)
    (hroom : (2 * (len + n) + 2000) * (info.bytes + 1) ≤ 1000000000) (old : Array Value) (hold : ¬ len + n ≤ cap → ∀ w', w'.heap = w.heap → (Builtin.firstCells info.size len (.slice base len cap)).run P w' = .ok old w') :
    (Builtin.append_ ts ty #[.slice base len cap, x]).run P w =
      if len + n ≤ cap then (((match base with | some a => storeCells (a.add (len * info.size)) cs.toList | none => pure ()) : Sem Unit).run P w).andThen fun _ w' => .ok (.slice base (len + n) cap) w'
      else
        .ok (.slice (some ⟨w.heap.size, 0, none⟩) (len + n) (len + n + w.tape w.drawn (.appendCap (len + n) cap e) % (2 ^ 63 - (len + n))))
          { w with heap := w.heap.push (.cells (old ++ cs ++ Builtin.zeroCells zv.cells (len + n + w.tape w.drawn (.appendCap (len + n) cap e) % (2 ^ 63 - (len + n)) - (len + n))) e), drawn := w.drawn + 1 } := by
  obtain ⟨xt, d, hxt, hxr, hx⟩ := hx.type
  have hneed : len + n ≤ 1000000000 := by
    have h1 : 1 * (2 * (len + n) + 2000) ≤ (info.bytes + 1) * (2 * (len + n) + 2000) := Nat.mul_le_mul_right _ (by omega)
    rw [Nat.mul_comm (info.bytes + 1)] at h1
    omega
  have hmax : IntKind.i64.max = 9223372036854775807 := by decide
  have hbig : ¬ (((len + n : Nat) : Int) > IntKind.i64.max) := by rw [hmax]; omega
  have hcapb : ¬ (len + n ≤ cap) → ¬ (Builtin.nextslicecap (len + n) cap * info.bytes > 2 ^ 48) := by
    intro hc
    have h1 := nextslicecap_le (len + n) cap (by omega)
    have h2 : Builtin.nextslicecap (len + n) cap * info.bytes ≤ (2 * (len + n) + 2000) * (info.bytes + 1) := Nat.mul_le_mul h1 (by omega)
    omega
  have hzr : ∀ w, (zeroValue e).run P w = .ok zv w := fun w => by simp [zeroValue, hri, hzv]
  have hsw : ∀ c : Nat, ({ w with drawn := w.drawn + c } : World).heap = w.heap := fun _ => rfl
  rcases hx with ⟨hd, hlen, hcs⟩ | ⟨⟨kd, rfl⟩, ⟨k, rfl⟩, hn, v, hv, hvs, hcs⟩
  · simp only [Builtin.append_, List.getElem?_toArray, List.getElem?_cons_zero, List.getElem?_cons_succ, ht, hxt, Sem.run_bind, hru, Result.andThen_ok, sizeOf, hri, Sem.run_pure, hxr]
    by_cases hc : len + n ≤ cap
    · cases d <;> first | (exact absurd rfl (hd _)) | skip
      all_goals
        simp only [Bool.false_eq_true, if_false, Bool.not_false, if_true, Sem.run_bind, hlen, Result.andThen_ok, Sem.run_ite, if_pos hc, hcs w rfl]
        cases base <;> simp
    · have ho := hold hc { w with drawn := w.drawn + 1 } rfl
      have hcs1 := hcs { w with drawn := w.drawn + 1 } rfl
      cases d <;> first | (exact absurd rfl (hd _)) | skip
      all_goals
        simp only [Bool.false_eq_true, if_false, Bool.not_false, if_true, Sem.run_bind, hlen, Result.andThen_ok, Sem.run_ite, if_neg hc, hri, hbig, false_and, hcapb hc, run_choose, Question.forced, Question.cut, run_askRoom]
        rw [ho]
        simp only [Result.andThen_ok]
        rw [hcs1]
        simp only [Result.andThen_ok, hzr, newRow, Sem.run_bind, run_newObj, Sem.run_pure]
  · have hb : (n : Int) * (info.bytes : Int) ≤ 1000000000 := by
      have h1 : n * info.bytes ≤ (2 * (len + n) + 2000) * (info.bytes + 1) := Nat.mul_le_mul (show n ≤ 2 * (len + n) + 2000 by omega) (show info.bytes ≤ info.bytes + 1 by omega)
      have h2 : n * info.bytes ≤ 1000000000 := Nat.le_trans h1 hroom
      have h3 : ((n * info.bytes : Nat) : Int) = (n : Int) * (info.bytes : Int) := Int.natCast_mul _ _
      omega
    have hwr : IntKind.i64.wrap (n : Int) = n := by rw [IntKind.wrap_i64]; omega
    have hn0 : ¬ ((n : Int) < 0) := by omega
    have hb2 : ¬ ((n : Int) * (info.bytes : Int) > 2 ^ 48) := by omega
    have hvz : v = zv := by
      have h1 := hv w
      rw [hzr w] at h1
      injection h1 with h1
      exact h1.symm
    subst hvz
    have hnew : ∀ w : World, (if n * info.size = 0 then (.ok #[] w : Result (Array Value)) else .ok (Builtin.zeroCells v.cells n) w) = .ok cs w := by
      intro w
      by_cases h0 : n * info.size = 0
      · rw [if_pos h0, hcs]
        congr 1
        unfold Builtin.zeroCells
        rw [hvs, h0]
        apply Array.ext'
        simp
      · rw [if_neg h0, hcs]
    simp only [Builtin.append_, List.getElem?_toArray, List.getElem?_cons_zero, List.getElem?_cons_succ, ht, hxt, Sem.run_bind, hru, Result.andThen_ok, sizeOf, hri, Sem.run_pure, hxr, if_true, asInt, asIntOf, hwr, Sem.run_ite, hn0, if_false, hb2, Int.toNat_natCast, Bool.not_true, Bool.false_eq_true, hzr]
    by_cases hc : len + n ≤ cap
    · simp only [if_pos hc, hnew, Result.andThen_ok]
      cases base <;> simp
    · have ho := hold hc { w with drawn := w.drawn + 1 } rfl
      simp only [if_neg hc, hbig, false_and, if_false, hcapb hc, run_choose, Question.forced, Question.cut, run_askRoom, Result.andThen_ok, Bool.false_eq_true]
      rw [ho]
      simp only [Result.andThen_ok, hnew, newRow, Sem.run_bind, run_newObj, Sem.run_pure]

end ops
end Go.Proofs.YtbcnedhhebjhdaaGreatDoor.Fa

/-
  Loud operations against the model's: appends, done.
-/
namespace Go.Proofs.YtbcnedhhebjhdaaGreatDoor.Fa

theorem seg_read {h : Heap} {id off m : Nat} {rw1 rear : List AV} {o : Option (Nat × Nat)} {str : Bool} {old : List AV} (hb : h.find id = some (.cells rw1 rear o str)) (hs : segment (row rw1 rear) off m = some old) : readCells h id off m = some old := by
  cases m with
  | zero =>
    obtain ⟨_, h2, _⟩ := segment_some hs
    rw [List.eq_nil_of_length_eq_zero h2]
    rfl
  | succ m =>
    show ob (rowAt h id) (fun cs => segment cs off (m + 1)) = some old
    have : rowAt h id = some (row rw1 rear) := by
      unfold rowAt
      rw [hb]
      show some (bi (isNilL rear) rw1 (rowOf rw1 rear)) = _
      rw [rowOf_if]
    rw [this]
    exact hs

section ops
variable {P : Program} {E : Env0} {ε : Env} {st : St} {w : World} {a : Act} {lc : Lc} {fr : Tr AV} {l : List Nat} {r : AV × St}

/-- A new open row, of old cells and new ones. -/
theorem grown_ok (hs : Sim (Dn st.next) ε st.heap.find w) {h1 : Heap} (hl : ∀ i b, h1.find i = some b → st.heap.find i = some b) {e : TypeId} {s k newCap : Nat} {rw1 rear : List AV} {str : Bool} {rest : Array Value} {w' : World} {res : Result Next}
    (hc : CellsOk (Dn st.next) ε (row rw1 rear)) (hlen : (row rw1 rear).length = k * s) (hk : k ≤ newCap) (hrest : rest.size = (newCap - k) * s)
    (hw : w'.heap = w.heap.push (.cells (((row rw1 rear).map (g ε)).toArray ++ rest) e)) (hos : SameOs w w') (hr : res = .ok (.value (.slice (some ⟨w.heap.size, 0, none⟩) k newCap)) w') :
    LRes ε st w (.slc st.next 0 k (.grown 0), newBlk (putHeap st h1) (.cells rw1 rear (some (s, k * s)) str)) res := by
  have hnew : ¬ Dn st.next st.next := Nat.lt_irrefl _
  have ha := Env.at_agree (D := Dn st.next) hnew ε w.heap.size 0 newCap
  refine ⟨ε.at st.next w.heap.size 0 newCap, w', _, hr, .inl ?_, ?_, ?_, rfl, rfl⟩
  · simp [g, gCap, Env.at]
  · simp only [okv, capOk, Env.at_ext]
    exact ⟨Nat.lt_succ_self _, by omega⟩
  · refine After.weaken hl (After.alloc (hs.less hl) ha (Env.at_blk ..) ?_ hw hos)
    have hc' := hc.agree (D' := Dn (st.next + 1)) ha fun i hi => Nat.lt_succ_of_lt hi
    refine ⟨_, e, (0, 0), rfl, ?_, hc', fun off _ => by simp, fun _ => rfl, fun z hz => ?_⟩
    · intro i v hv
      rw [Env.at_sft, Nat.zero_add]
      have hi : i < (row rw1 rear).length := (List.getElem?_eq_some_iff.1 hv).1
      rw [Array.getElem?_append_left (by simpa using hi)]
      rw [g_agree ha v (hc v (List.mem_of_getElem? hv)).1]
      simp only [List.getElem?_toArray, List.getElem?_map, hv, Option.map_some]
    · injection hz with hz
      subst hz
      refine ⟨hlen.symm, ?_⟩
      simp only [Env.at_sft, Env.at_ext, Array.size_append, List.size_toArray, List.length_map, hlen, hrest, Nat.zero_add]
      rw [← Nat.add_mul, Nat.add_sub_cancel' hk]
      exact Nat.le_refl _

theorem appTo_ok (c : OpAt P E (Dn st.next) ε st.heap st.next w a lc fr l) (ts : Array TypeId) (t ty e : TypeId) (info : TypeInfo) (zv : Value) (ht : ts[0]? = some t) (hru : ∀ w, (underlying t).run P w = .ok (.slice e) w)
    (hri : ∀ w, (typeInfo e).run P w = .ok info w) (hzv : info.zero = some zv) (hzs : zv.cells.size = info.size) {b : AV} {x : Value} {p : List AV × Nat} (hb : okv (Dn st.next) ε b) (hx : Appd P w ts e info x p.2 (p.1.map (g ε)).toArray)
    (hpc : CellsOk (Dn st.next) ε p.1) (hpl : p.1.length = p.2 * info.size) (hf : appTo st info.size info.bytes b p = some r) :
    LRes ε st w r ((do pure (.value (← Builtin.append_ ts ty #[g ε b, x])) : Sem Next).run P w) := by
  unfold appTo at hf
  rw [bi_eq] at hf
  split at hf
  · rename_i hro
    have hroom : (2 * (lenOf b + p.2) + 2000) * (info.bytes + 1) ≤ 1000000000 := Nat.le_of_ble_eq_true hro
    have hzz : ∀ k, (Builtin.zeroCells zv.cells k).size = k * info.size := fun k => by simp [Builtin.zeroCells, hzs]
    obtain ⟨cs, n⟩ := p
    cases n with
    | zero =>
      have hf' : onSlc none (done .nilSlc st) (fun _ _ _ _ => done b st) b = some r := hf
      have hcs0 : cs = [] := List.eq_nil_of_length_eq_zero (by simpa using hpl)
      subst hcs0
      rcases onSlc_some hf' with ⟨rfl, hf2⟩ | ⟨id, off, len, cp, rfl, hf2⟩ | h
      · injection hf2 with hf2
        subst hf2
        refine LRes.value (ε' := ε) (w' := w) ?_ (by simp [okv]) (.refl c.sim) rfl rfl
        simp only [Sem.run_bind, g]
        rw [run_append ts t ty e info zv none 0 0 0 x #[] ht hru hri hzv hx hroom #[] (fun h => absurd (Nat.le_refl _) h)]
        simp
      · injection hf2 with hf2
        subst hf2
        refine LRes.value (ε' := ε) (w' := w) ?_ hb (.refl c.sim) rfl rfl
        simp only [okv] at hb
        have hle : len + 0 ≤ gCap ε id cp := by
          cases cp with
          | exact m => exact hb.2
          | grown s => have := hb.2; simp only [capOk] at this; simp only [gCap]; omega
        simp only [Sem.run_bind, g]
        rw [run_append ts t ty e info zv (some ⟨ε.blk id, ε.sft id + off, none⟩) len (gCap ε id cp) 0 x #[] ht hru hri hzv hx hroom #[] (fun h => absurd hle h), if_pos hle]
        simp [storeCells]
      · cases h
    | succ n =>
      have hf' : onSlc none (appNew st info.size cs (n + 1)) (fun id off len cp => onCap (fun m => appExact st info.size cs (n + 1) id off len m) (fun gg => appGrown st info.size cs (n + 1) id off len gg) cp) b = some r := hf
      have hnok : ∀ (len cap : Nat) (old : List AV), okv (Dn st.next) ε b → ¬ (len + (n + 1) ≤ cap) → CellsOk (Dn st.next) ε old → old.length = len * info.size → (2 * (len + (n + 1)) + 2000) * (info.bytes + 1) ≤ 1000000000 →
          ∀ (base : Option Addr) (h1 : Heap) (rw1 rear : List AV) (str : Bool), (∀ i b, h1.find i = some b → st.heap.find i = some b) → row rw1 rear = old ++ cs → g ε b = .slice base len cap →
          (∀ w', w'.heap = w.heap → (Builtin.firstCells info.size len (.slice base len cap)).run P w' = .ok (old.map (g ε)).toArray w') →
          LRes ε st w (.slc st.next 0 (len + (n + 1)) (.grown 0), newBlk (putHeap st h1) (.cells rw1 rear (some (info.size, (len + (n + 1)) * info.size)) str)) ((do pure (.value (← Builtin.append_ ts ty #[g ε b, x])) : Sem Next).run P w) := by
        intro len cap old _ hgt hold hol hrm base h1 rw1 rear str hl hrow hgb hfirst
        obtain ⟨newCap, hnc⟩ : ∃ newCap, newCap = len + (n + 1) + w.tape w.drawn (.appendCap (len + (n + 1)) cap e) % (2 ^ 63 - (len + (n + 1))) := ⟨_, rfl⟩
        refine grown_ok (e := e) (newCap := newCap) (rest := Builtin.zeroCells zv.cells (newCap - (len + (n + 1))))
          (w' := { w with heap := w.heap.push (.cells ((old.map (g ε)).toArray ++ (cs.map (g ε)).toArray ++ Builtin.zeroCells zv.cells (newCap - (len + (n + 1)))) e), drawn := w.drawn + 1 }) c.sim hl ?_ ?_ (by omega) (hzz _) ?_ ⟨rfl, rfl, rfl⟩ ?_
        · rw [hrow]
          intro z hz
          rcases List.mem_append.1 hz with hz | hz
          · exact hold z hz
          · exact hpc z hz
        · have hpl' : cs.length = (n + 1) * info.size := hpl
          rw [hrow, List.length_append, hol, hpl', ← Nat.add_mul]
        · rw [hrow]; simp
        · rw [Sem.run_bind, hgb, run_append ts t ty e info zv base len cap (n + 1) x _ ht hru hri hzv hx hrm (old.map (g ε)).toArray (fun _ => hfirst), if_neg hgt, ← hnc]
          rfl
      rcases onSlc_some hf' with ⟨rfl, hf2⟩ | ⟨id, off, len, cp, rfl, hf2⟩ | h
      · injection hf2 with hf2
        subst hf2
        have := hnok 0 0 [] hb (by omega) (fun z hz => by cases hz) (by simp) hroom none st.heap cs [] false (fun _ _ h => h) (by simp [row]) (by simp [g]) (fun w' _ => by simp [Builtin.firstCells])
        rw [Nat.zero_add] at this
        exact this
      · simp only [okv] at hb
        cases cp with
        | exact m =>
          have hf3 : bi (Nat.ble (len + (n + 1)) m) (ob (writeCells st.heap id (Nat.add off (Nat.mul len info.size)) cs) fun h => done (.slc id off (Nat.add len (n + 1)) (.exact m)) (putHeap st h))
              (ob (readCells st.heap id off (Nat.mul len info.size)) fun old => appNew st info.size (lapp old cs) (Nat.add len (n + 1))) = some r := hf2
          rw [bi_eq] at hf3
          split at hf3
          · rename_i hle
            have hle' : len + (n + 1) ≤ m := Nat.le_of_ble_eq_true hle
            rw [ob_eq_some] at hf3
            obtain ⟨h', hw, hf3⟩ := hf3
            injection hf3 with hf3
            subst hf3
            obtain ⟨w', hr, ha⟩ := writeCells_ok P c.sim hpc hw
            refine LRes.value (ε' := ε) (w' := w') ?_ (by simp only [okv]; exact ⟨hb.1, hle'⟩) ha rfl rfl
            simp only [Sem.run_bind, g, gCap]
            rw [run_append ts t ty e info zv (some ⟨ε.blk id, ε.sft id + off, none⟩) len m (n + 1) x _ ht hru hri hzv hx hroom #[] (fun h => absurd hle' h), if_pos hle']
            simp only [add_addr, Nat.add_assoc]
            rw [show off + len * info.size = Nat.add off (Nat.mul len info.size) from rfl, hr]
            rfl
          · rename_i hle
            have hle' : ¬ len + (n + 1) ≤ m := fun h => hle (Nat.ble_eq_true_of_le h)
            rw [ob_eq_some] at hf3
            obtain ⟨old, hold, hf3⟩ := hf3
            injection hf3 with hf3
            subst hf3
            obtain ⟨_, o2, o3⟩ := readCells_ok (P := P) c.sim hold
            have := hnok len m old (by simp only [okv]; exact hb) hle' o2 o3 hroom (some ⟨ε.blk id, ε.sft id + off, none⟩) st.heap (lapp old cs) [] false (fun _ _ h => h) (by simp [row]) (by simp [g, gCap])
              (fun w' hw' => (readCells_ok (P := P) (c.sim.heap hw') hold).1)
            exact this
        | grown gg =>
          have hf3 : ob (st.heap.find id) (onCells none fun row rear o str => ob o fun z =>
              bi (andb (Nat.beq z.1 info.size) (Nat.beq off (Nat.mul gg info.size))) (bi (andb (Nat.beq off 0) (Nat.beq (Nat.mul len info.size) z.2)) (appWhole st info.size cs (n + 1) id len row rear str) (appPart st info.size cs (n + 1) id off len row rear str)) none) = some r := hf2
          rw [ob_eq_some] at hf3
          obtain ⟨bk, hb1, hf3⟩ := hf3
          cases bk <;> first | (cases hf3; done) | skip
          rename_i row1 rear1 o1 str1
          have hf4 : ob o1 (fun z => bi (andb (Nat.beq z.1 info.size) (Nat.beq off (Nat.mul gg info.size))) (bi (andb (Nat.beq off 0) (Nat.beq (Nat.mul len info.size) z.2)) (appWhole st info.size cs (n + 1) id len row1 rear1 str1) (appPart st info.size cs (n + 1) id off len row1 rear1 str1)) none) = some r := hf3
          rw [ob_eq_some] at hf4
          obtain ⟨z, rfl, hf4⟩ := hf4
          rw [bi_eq] at hf4
          split at hf4
          · rename_i hz
            simp only [andb_eq, nbeq, Bool.and_eq_true, decide_eq_true_eq] at hz
            obtain ⟨hz1, hoff⟩ := hz
            have hoff' : off = gg * info.size := hoff
            obtain ⟨ob1, hob, arr, T, fz, rfl, hwin, hcs, hmark, hfz, hopn⟩ := c.sim.obj id _ hb1
            obtain ⟨ho1, ho2⟩ := hopn z rfl
            rw [hz1] at ho2
            have hcap : gg + len ≤ ε.ext id := hb.2
            have hpl' : cs.length = (n + 1) * info.size := hpl
            obtain ⟨old, R, rear', hseg, hrow, rfl⟩ : ∃ old R rear', segment (row row1 rear1) off (len * info.size) = some old ∧ row R rear' = old ++ cs ∧
                r = (.slc st.next 0 (len + (n + 1)) (.grown 0), newBlk (putHeap st (st.heap.set id none)) (.cells R rear' (some (info.size, (len + (n + 1)) * info.size)) str1)) := by
              rw [bi_eq] at hf4
              split at hf4
              · rename_i hw
                simp only [andb_eq, nbeq, Bool.and_eq_true, decide_eq_true_eq] at hw
                injection hf4 with hf4
                refine ⟨row row1 rear1, row1, revOn cs rear1, ?_, row_revOn .., hf4.symm⟩
                have hw2 : len * info.size = (row row1 rear1).length := by rw [← ho1]; exact hw.2
                rw [segment_eq, hw.1, hw2, if_pos (by omega)]
                simp
              · have hf5 : ob (segment (bi (isNilL rear1) row1 (rowOf row1 rear1)) off (Nat.mul len info.size)) (fun old =>
                  done (.slc st.next 0 (Nat.add len (n + 1)) (.grown 0)) (newBlk (dropBlk st id) (.cells (lapp old cs) [] (some (info.size, Nat.mul (Nat.add len (n + 1)) info.size)) str1))) = some r := hf4
                rw [rowOf_if, ob_eq_some] at hf5
                obtain ⟨old, hseg, hf5⟩ := hf5
                injection hf5 with hf5
                exact ⟨old, lapp old cs, [], hseg, by simp [row], hf5.symm⟩
            obtain ⟨s1, s2, s3⟩ := segment_some hseg
            have hrd := seg_read hb1 hseg
            obtain ⟨_, o2, o3⟩ := readCells_ok (P := P) c.sim hrd
            by_cases hfit : len + (n + 1) ≤ ε.ext id - gg
            · have hsum : gg * info.size + len * info.size + (n + 1) * info.size ≤ ε.ext id * info.size := by
                rw [← Nat.add_mul, ← Nat.add_mul]
                exact Nat.mul_le_mul_right _ (by omega)
              obtain ⟨w', hr, hos, arr', hw', hasz, hget⟩ := run_storeCells P (ε.blk id) (ε.sft id + off + len * info.size) T fz (cs.map (g ε)) 0 w arr hob (by
                intro u hu
                obtain ⟨y, hy, rfl⟩ := List.mem_map.1 hu
                rw [g_one1]
                exact (hpc y hy).2) (by rw [List.length_map, hpl', hoff']; omega) hmark
              have hnew : ¬ Dn st.next st.next := Nat.lt_irrefl _
              have ha := Env.at_agree (D := Dn st.next) hnew ε (ε.blk id) (ε.sft id + off) (ε.ext id - gg)
              have hrc : CellsOk (Dn st.next) ε (row R rear') := by
                rw [hrow]
                intro y hy
                rcases List.mem_append.1 hy with hy | hy
                · exact o2 y hy
                · exact hpc y hy
              refine ⟨ε.at st.next (ε.blk id) (ε.sft id + off) (ε.ext id - gg), w', .value (.slice (some ⟨ε.blk id, ε.sft id + off, none⟩) (len + (n + 1)) (ε.ext id - gg)), ?_, .inl ?_, ?_, After.move (o := .cells arr' T fz) c.sim hb1 rfl ha (Env.at_blk ..) ?_ hw' hos, rfl, rfl⟩
              · simp only [Sem.run_bind, g, gCap]
                rw [run_append ts t ty e info zv (some ⟨ε.blk id, ε.sft id + off, none⟩) len (ε.ext id - gg) (n + 1) x _ ht hru hri hzv hx hroom #[] (fun h => absurd hfit h), if_pos hfit]
                simp only [add_addr]
                rw [hr]
                rfl
              · simp [g, gCap, Env.at]
              · simp only [okv, capOk, Env.at_ext]
                exact ⟨Nat.lt_succ_self _, by omega⟩
              · refine ⟨arr', T, fz, rfl, ?_, hrc.agree ha fun i hi => Nat.lt_succ_of_lt hi, by rw [hasz]; exact hmark, hfz, fun zz hzz2 => ?_⟩
                · intro i v hv
                  rw [g_agree ha v (hrc v (List.mem_of_getElem? hv)).1, Env.at_sft, hget]
                  rw [hrow, List.getElem?_append] at hv
                  rw [List.length_map]
                  by_cases hi : i < old.length
                  · rw [if_pos hi] at hv
                    rw [if_neg (by omega), Nat.add_assoc]
                    refine hwin (off + i) v ?_
                    rw [← hv, s3 i (by omega)]
                  · rw [if_neg hi] at hv
                    have hi2 : i - old.length < cs.length := (List.getElem?_eq_some_iff.1 hv).1
                    rw [if_pos (by omega), show ε.sft id + off + i - (ε.sft id + off + len * info.size + 0) = i - old.length from by omega, List.getElem?_map, hv]
                    rfl
                · injection hzz2 with hzz2
                  subst hzz2
                  refine ⟨?_, ?_⟩
                  · rw [hrow, List.length_append, o3, hpl', ← Nat.add_mul]
                  · rw [Env.at_sft, Env.at_ext, hasz, hoff']
                    have : (ε.ext id - gg) * info.size + gg * info.size = ε.ext id * info.size := by
                      rw [← Nat.add_mul, Nat.sub_add_cancel (Nat.le_trans (Nat.le_add_right gg len) hcap)]
                    show ε.sft id + gg * info.size + (ε.ext id - gg) * info.size ≤ arr.size
                    omega
            · exact hnok len (ε.ext id - gg) old (by simp only [okv]; exact hb) hfit o2 o3 hroom (some ⟨ε.blk id, ε.sft id + off, none⟩) (st.heap.set id none) R rear' str1 drop_less hrow (by simp [g, gCap])
                (fun w' hw' => (readCells_ok (P := P) (c.sim.heap hw') hrd).1)
          · cases hf4
      · cases h
  · cases hf

end ops
end Go.Proofs.YtbcnedhhebjhdaaGreatDoor.Fa

/-
  Loud operations against the model's: all of them.
-/
namespace Go.Proofs.YtbcnedhhebjhdaaGreatDoor.Fa

section ops
variable {P : Program} {E : Env0} {ε : Env} {st : St} {w : World} {a : Act} {lc : Lc} {fr : Tr AV} {l : List Nat} {r : AV × St}

theorem isIntD_true {d : TypeDesc} (h : isIntD (ofDesc d) = true) : ∃ k, d = .int k := by cases d <;> first | (cases h; done) | exact ⟨_, rfl⟩
theorem isIntD_false {d : TypeDesc} (h : isIntD (ofDesc d) = false) : ∀ k, d ≠ .int k := by
  intro k hk
  subst hk
  cases h

theorem appendedX_ok (P : Program) {s : Nat} {x : AV} {p : List AV × Nat} (hs : Sim (Dn st.next) ε st.heap.find w) (hp : appendedX s st.heap x = some p) :
    (Builtin.lenOf (g ε x)).run P w = .ok p.2 w ∧ (∀ w', w'.heap = w.heap → (Builtin.firstCells s p.2 (g ε x)).run P w' = .ok (p.1.map (g ε)).toArray w') ∧ CellsOk (Dn st.next) ε p.1 ∧ p.1.length = p.2 * s := by
  unfold appendedX at hp
  rcases onSlc_some hp with ⟨rfl, hp2⟩ | ⟨id, off, m, cp, rfl, hp2⟩ | hp2
  · injection hp2 with hp2
    subst hp2
    exact ⟨by simp [Builtin.lenOf, g], fun w' _ => by simp [Builtin.firstCells, g], fun c hc => (by cases hc), by simp⟩
  · rw [ob_eq_some] at hp2
    obtain ⟨cs, hcs, hp2⟩ := hp2
    injection hp2 with hp2
    subst hp2
    obtain ⟨_, h4, h5⟩ := readCells_ok (P := P) hs hcs
    refine ⟨by simp [Builtin.lenOf, g], fun w' hw' => ?_, h4, h5⟩
    simp only [Builtin.firstCells, g]
    exact (readCells_ok (P := P) (hs.heap hw') hcs).1
  · obtain ⟨b, rfl, hp3⟩ := onStr_some' hp2
    rw [bi_eq] at hp3
    split at hp3
    · rename_i hs1
      rw [nbeq] at hs1
      have hs1' : s = 1 := by simpa using hs1
      injection hp3 with hp3
      subst hp3
      have e1 : (⟨b.toArray⟩ : ByteArray).size = b.length := rfl
      refine ⟨by simp [Builtin.lenOf, g, e1], fun w' _ => ?_, bytesCells_ok _, ?_⟩
      · simp only [Builtin.firstCells, g, Sem.run_pure, bytesCells_map]
        congr 1
        apply Array.ext'
        simp [ByteArray.data_extract, List.extract]
      · rw [bytesCells_eq]; simp [hs1']
    · cases hp3

theorem cAppend_ok (c : OpAt P E (Dn st.next) ε st.heap st.next w a lc fr l) (ts : Array TypeId) (ty : TypeId) (x y : Operand) (hx : ∀ u, x = .tmp u → u ∈ l) (hy : ∀ u, y = .tmp u → u ∈ l) {f : LF} (hq : cAppend E ts.toList x y = some f) (hf : f lc fr st = some r) :
    LRes ε st w r ((do pure (.value (← Builtin.append_ ts ty #[a.eval x, a.eval y])) : Sem Next).run P w) := by
  unfold cAppend at hq
  rw [ob_eq_some] at hq
  obtain ⟨t, ht, hq⟩ := hq
  rw [lget_eq, Array.getElem?_toList] at ht
  rw [ob_eq_some] at hq
  obtain ⟨xt, hxt, hq⟩ := hq
  rw [lget_eq, Array.getElem?_toList] at hxt
  rw [ob_eq_some] at hq
  obtain ⟨i, hi, hq⟩ := hq
  rw [ob_eq_some] at hq
  obtain ⟨xi, hxi, hq⟩ := hq
  obtain ⟨d, hd, he, hru⟩ := (c.env.tyOk hi).run_underlying
  obtain ⟨xd, hxd, hxe, hxru⟩ := (c.env.tyOk hxi).run_underlying
  rw [he] at hq
  obtain ⟨e, rfl, hq2⟩ := onSliceD_some hq
  clear hq
  rw [ob_eq_some] at hq2
  obtain ⟨j, hj, hq2⟩ := hq2
  rw [ob_eq_some] at hq2
  obtain ⟨z, hz, hq2⟩ := hq2
  obtain ⟨j', v, hj', hzv, hvc, hzc, hzl⟩ := zeroCells_ok (ε := ε) (D := Dn st.next) c.env hz
  rw [hj] at hj'
  injection hj' with hj'
  subst hj'
  obtain ⟨info, hinfo, hsz, hby, _, _, hri⟩ := (c.env.tyOk hj).run_typeInfo
  have hzero : info.zero = some v := by
    have h1 := hzv w
    simp only [zeroValue, Sem.run_bind, hri, Result.andThen_ok] at h1
    cases hz0 : info.zero with
    | none => rw [hz0] at h1; cases h1
    | some v' =>
      rw [hz0] at h1
      injection h1 with h1
      rw [h1]
  have hvs : v.cells.size = info.size := by rw [hvc, ← hsz, ← hzl]; simp
  rw [bi_eq] at hq2
  split at hq2
  · rename_i hint
    rw [hxe] at hint
    obtain ⟨kd, rfl⟩ := isIntD_true hint
    injection hq2 with hq2
    subst hq2
    unfold lAppendZ at hf
    rw [ob_eq_some] at hf
    obtain ⟨bv, hbv, hf⟩ := hf
    obtain ⟨h1, hbok⟩ := c.gt hbv hx
    rw [ob_eq_some] at hf
    obtain ⟨xv, hxv, hf⟩ := hf
    obtain ⟨h2, _⟩ := c.gt hxv hy
    rw [ob_eq_some] at hf
    obtain ⟨p, hp, hf⟩ := hf
    unfold appendedZ at hp
    obtain ⟨kk, zz, rfl, hp2⟩ := onInt_some hp
    obtain ⟨m, rfl, hp3⟩ := onNat_some hp2
    rw [bi_eq] at hp3
    split at hp3
    · rename_i hle
      injection hp3 with hp3
      subst hp3
      rw [h1, h2]
      rw [hsz, hby] at hf
      refine appTo_ok c ts t ty e info v ht hru hri hzero hvs hbok ⟨xt, _, hxt, hxru, .inr ⟨⟨kd, rfl⟩, ⟨kk, by simp [g]⟩, Nat.le_of_ble_eq_true hle, v, hzv, hvs, ?_⟩⟩ (hzc.rep m) ?_ hf
      · rw [hvc, zeroCells_rep, lrep_map]
      · rw [lrep_eq, ← hsz, ← hzl]; simp
    · cases hp3
  · rename_i hint
    rw [hxe] at hint
    injection hq2 with hq2
    subst hq2
    unfold lAppendX at hf
    rw [ob_eq_some] at hf
    obtain ⟨bv, hbv, hf⟩ := hf
    obtain ⟨h1, hbok⟩ := c.gt hbv hx
    rw [ob_eq_some] at hf
    obtain ⟨xv, hxv, hf⟩ := hf
    obtain ⟨h2, _⟩ := c.gt hxv hy
    rw [ob_eq_some] at hf
    obtain ⟨p, hp, hf⟩ := hf
    rw [hsz] at hp
    rw [hsz, hby] at hf
    obtain ⟨a1, a2, a3, a4⟩ := appendedX_ok P c.sim hp
    rw [h1, h2]
    exact appTo_ok c ts t ty e info v ht hru hri hzero hvs hbok ⟨xt, xd, hxt, hxru, .inl ⟨isIntD_false (by simpa using hint), a1, a2⟩⟩ a3 a4 hf

theorem loudK_some {q : LM} {f : LF} (h : loudK q = .loud f) : q = some f := by
  cases q with
  | none => cases h
  | some q => injection h with h; rw [h]
theorem quietK_loud {q : QM} {f : LF} (h : quietK q = .loud f) : False := by cases q <;> cases h

theorem loudCall_ok (c : OpAt P E (Dn st.next) ε st.heap st.next w a lc fr l) (o : Oper) (cl : Call) (ho : o.op = .call cl) (hl : ∀ t ∈ rCall cl, t ∈ l) {f : LF} (hq : cCallK E cl = .loud f) (hf : f lc fr st = some r) : LRes ε st w r ((execOp a.eval o).run P w) := by
  unfold cCallK at hq
  unfold cCallee at hq
  split at hq
  · cases hq
  · rename_i b hb
    have hargs : ∀ x ∈ cl.args.toList, ∀ u, x = .tmp u → u ∈ l := by
      intro x hx u hu
      refine hl u ?_
      unfold rCall
      rw [hb]
      exact (mem_rs cl.args.toList []).1 x hx u hu
    rw [run_builtin P w a.eval o cl b ho hb]
    have hq : cBuiltinK E b cl.argTypes.toList cl.args.toList = .loud f := hq
    unfold cBuiltinK at hq
    split at hq
    · obtain ⟨x, y, hx, hq2⟩ := two_some (loudK_some hq)
      have hx1 : cl.args.map a.eval = #[a.eval x, a.eval y] := by apply Array.ext'; simp [hx]
      rw [hx1]
      exact cAppend_ok c cl.argTypes o.type x y (hargs x (by rw [hx]; simp)) (hargs y (by rw [hx]; simp)) hq2 hf
    · obtain ⟨x, y, hx, hq2⟩ := two_some (loudK_some hq)
      have hx1 : cl.args.map a.eval = #[a.eval x, a.eval y] := by apply Array.ext'; simp [hx]
      rw [hx1]
      exact cCopy_ok c cl.argTypes o.type x y (hargs x (by rw [hx]; simp)) (hargs y (by rw [hx]; simp)) hq2 hf
    · obtain ⟨x, y, hx, hq2⟩ := two_some (loudK_some hq)
      have hx1 : cl.args.map a.eval = #[a.eval x, a.eval y] := by apply Array.ext'; simp [hx]
      rw [hx1]
      exact cDelete_ok c cl.argTypes o.type x y (hargs x (by rw [hx]; simp)) (hargs y (by rw [hx]; simp)) hq2 hf
    · obtain ⟨x, hx, hq2⟩ := one_some (loudK_some hq)
      have hx1 : cl.args.map a.eval = #[a.eval x] := by apply Array.ext'; simp [hx]
      rw [hx1]
      exact cClear_ok c cl.argTypes o.type x (hargs x (by rw [hx]; simp)) hq2 hf
    · cases hq
    · exact (quietK_loud hq).elim
    · exact (quietK_loud hq).elim
    · exact (quietK_loud hq).elim
    · exact (quietK_loud hq).elim
    · cases hq
  · cases hq

theorem loud_ok (c : OpAt P E (Dn st.next) ε st.heap st.next w a lc fr l) (o : Oper) (hl : ∀ t ∈ opReads o.op, t ∈ l) {f : LF} (hq : cKind E o.op = .loud f) (hf : f lc fr st = some r) : LRes ε st w r ((execOp a.eval o).run P w) := by
  cases ho : o.op with
  | insert t m k v =>
    rw [ho] at hq hl
    obtain ⟨h1, hl⟩ := in_r1 hl
    obtain ⟨h2, hl⟩ := in_r1 hl
    obtain ⟨h3, _⟩ := in_r1 hl
    simp only [execOp, ho]
    exact lMapPut_ok c t m k v h1 h2 h3 (loudK_some (q := cMapPut E t m k v) hq) hf
  | mapUpdate t m k v =>
    rw [ho] at hq hl
    obtain ⟨h1, hl⟩ := in_r1 hl
    obtain ⟨h2, hl⟩ := in_r1 hl
    obtain ⟨h3, _⟩ := in_r1 hl
    simp only [execOp, ho]
    exact lMapPut_ok c t m k v h1 h2 h3 (loudK_some (q := cMapPut E t m k v) hq) hf
  | store t x y =>
    rw [ho] at hq hl
    obtain ⟨h1, hl⟩ := in_r1 hl
    obtain ⟨h2, _⟩ := in_r1 hl
    simp only [execOp, ho]
    exact lStore_ok c t x y h1 h2 (loudK_some (q := cStore E t x y) hq) hf
  | next x s =>
    rw [ho] at hq hl
    injection hq with hq
    subst hq
    simp only [execOp, ho]
    exact lNext_ok c s x o.type (in_r1 hl).1 hf
  | call cl => rw [ho] at hq hl; exact loudCall_ok c o cl ho hl hq hf
  | move x => rw [ho] at hq; cases x <;> cases hq
  | assign x => rw [ho] at hq; cases x <;> cases hq
  | alloc e => rw [ho] at hq; exact (quietK_loud (q := cAlloc E e) hq).elim
  | build t ps => rw [ho] at hq; exact (quietK_loud (q := cBuild E t ps.toList) hq).elim
  | buildSlice t m ps => rw [ho] at hq; exact (quietK_loud (q := cBuildSlice E t m ps.toList) hq).elim
  | load t x => rw [ho] at hq; exact (quietK_loud (q := cLoad E t x) hq).elim
  | binOp op t x y yt => rw [ho] at hq; exact (quietK_loud (q := cBin E op t x y) hq).elim
  | unOp op t x => rw [ho] at hq; exact (quietK_loud (q := cUn op x) hq).elim
  | convert s d x => rw [ho] at hq; exact (quietK_loud (q := cConv E s d x) hq).elim
  | makeInterface t x => rw [ho] at hq; exact (quietK_loud (q := cIface E t x) hq).elim
  | makeFunc f p q => rw [ho] at hq; exact (quietK_loud (q := cFunc f p.toList q.toList) hq).elim
  | makeMap t m => rw [ho] at hq; exact (quietK_loud (q := cMakeMap E t m) hq).elim
  | makeSlice t x y => rw [ho] at hq; exact (quietK_loud (q := cMakeSlice E t x y) hq).elim
  | slice t x lo hi mx => rw [ho] at hq; exact (quietK_loud (q := cSlice E t x lo hi mx) hq).elim
  | fieldAddr t x k => rw [ho] at hq; exact (quietK_loud (q := cFieldAddr E t x k) hq).elim
  | field t x k => rw [ho] at hq; exact (quietK_loud (q := cField E t x k) hq).elim
  | indexAddr t x y => rw [ho] at hq; exact (quietK_loud (q := cIndexAddr E t x y) hq).elim
  | index t x y => rw [ho] at hq; exact (quietK_loud (q := cIndex E t x y) hq).elim
  | lookup t x y ok => rw [ho] at hq; exact (quietK_loud (q := cLookup E t x y ok) hq).elim
  | range t x => rw [ho] at hq; exact (quietK_loud (q := cRange E t x) hq).elim
  | typeAssert x xt t ok => rw [ho] at hq; exact (quietK_loud (q := cAssert E x t ok) hq).elim
  | defer cl =>
    rw [ho] at hq
    have hq' : cDeferK cl = .loud f := hq
    unfold cDeferK cCallee at hq'
    split at hq' <;> cases hq'
  | _ => rw [ho] at hq; cases hq

end ops
end Go.Proofs.YtbcnedhhebjhdaaGreatDoor.Fa
