/-
  Quiet operations (2). No condition.
-/
import Derived.Test.YtbcnedhhebjhdaaGreatDoorFa2
import Derived.Laws.BitsLemmas

/-
  The quiet operations, against the model's: checks, conversions, makings.
-/
namespace Go.Proofs.YtbcnedhhebjhdaaGreatDoor.Fa

theorem push_modify {α : Type} (xs : Array α) (o : α) (f : α → α) : (xs.push o).modify xs.size f = xs.push (f o) := by
  refine Array.ext (by simp) fun i h1 h2 => ?_
  rw [Array.getElem_modify]
  simp only [Array.getElem_push]
  by_cases hi : i < xs.size
  · rw [if_neg (by omega)]
    simp [hi]
  · rw [if_pos (by simp at h2; omega)]
    simp [hi]

theorem bytesCells_eq (s : List UInt8) : bytesCells s = s.map fun b => .int .u8 (Int.ofNat b.toNat) := by
  induction s with
  | nil => rfl
  | cons b s ih => show _ :: bytesCells s = _; rw [ih]; rfl
theorem cellsBytes_some : ∀ {cs : List AV} {bs : List UInt8}, cellsBytes cs = some bs → ∃ ns : List Int, cs = ns.map (AV.int .u8) ∧ bs = ns.map fun n => UInt8.ofNat n.toNat := by
  intro cs
  induction cs with
  | nil => intro bs h; injection h with h; subst h; exact ⟨[], rfl, rfl⟩
  | cons c cs ih =>
    intro bs h
    have h' : onInt none (fun k n => bi (isU8 k) (ob (cellsBytes cs) fun bs => some (UInt8.ofNat n.toNat :: bs)) none) c = some bs := h
    cases c <;> first | (cases h'; done) | skip
    rename_i k z
    have h2 : bi (isU8 k) (ob (cellsBytes cs) fun bs => some (UInt8.ofNat z.toNat :: bs)) none = some bs := h'
    rw [bi_eq] at h2
    split at h2
    · rename_i hk
      rw [isU8_eq] at hk
      have hk' : k = .u8 := by simpa using hk
      subst hk'
      rw [ob_eq_some] at h2
      obtain ⟨r, hr, h2⟩ := h2
      injection h2 with h2
      obtain ⟨ns, h3, h4⟩ := ih hr
      exact ⟨z :: ns, by rw [h3]; rfl, by rw [← h2, h4]; rfl⟩
    · cases h2
theorem fold_push : ∀ (ns : List Int) (s : ByteArray), ns.foldl (fun r n => r.push (UInt8.ofNat n.toNat)) s = ⟨s.data ++ (ns.map fun n => UInt8.ofNat n.toNat).toArray⟩ := by
  intro ns
  induction ns with
  | nil => intro s; simp
  | cons n ns ih =>
    intro s
    rw [List.foldl_cons, ih]
    congr 1
    show s.data.push _ ++ _ = _
    apply Array.ext'
    simp

theorem run_markStringish (P : Program) (w : World) (b : Nat) (arr : Array Value) (T : TypeId) (hx : w.heap[b]? = some (.cells arr T (0, 0))) : (markStringish ⟨b, 0, none⟩).run P w = .ok () (w.freeze ⟨b, arr.size, none⟩ 1) := by
  have : w.shape? b = some (T, arr.size) := by simp [World.shape?, hx]
  simp only [markStringish, Sem.run_bind, run_shape, this, Result.andThen_ok, run_freeze]

section ops
variable {P : Program} {E : Env0} {D : Nat → Prop} {ε : Env} {h : Heap} {n : Nat} {w : World} {a : Act} {lc : Lc} {fr : Tr AV} {l : List Nat}

theorem qNilCheck_ok (c : OpAt P E D ε h n w a lc fr l) (x : Operand) (hx : ∀ u, x = .tmp u → u ∈ l) (o : Oper) (ho : o.op = .nilCheck x) :
    QRes D ε n w (qNilCheck (cOpd x) lc fr h n) ((execOp a.eval o).run P w) := by
  refine oq_elim (Φ := fun r => QRes D ε n w r _) trivial fun v hv => ?_
  obtain ⟨h1, h2⟩ := c.gt hv hx
  refine onPtr_elim (Φ := fun r => QRes D ε n w r _) ?_ fun id off hp => ?_
  · refine onFn_elim (Φ := fun r => QRes D ε n w r _) trivial fun f p q hf => ?_
    refine bi_elim (Φ := fun r => QRes D ε n w r _) (fun hfn => ?_) fun _ => trivial
    subst hf
    refine .mkVal ?_ h2
    cases f <;> first | (cases hfn; done) | skip
    simp [execOp, ho, h1, g, gFn]
  · subst hp
    refine .mkVal ?_ h2
    simp [execOp, ho, h1, g]

theorem isU8T_ok (hE : EnvOk P E) {e : TypeId} (h : isU8T E e = true) (w : World) : (underlying e).run P w = .ok (.int .u8) w := by
  unfold isU8T at h
  cases hi : E.type e with
  | none => rw [hi] at h; cases h
  | some i =>
    rw [hi] at h
    obtain ⟨d, hd, he, hru⟩ := (hE.tyOk hi).run_underlying
    have h' : onIntD false isU8 i.desc = true := h
    rw [he] at h'
    cases d <;> first | (cases h'; done) | skip
    rename_i k
    have h2 : isU8 k = true := h'
    rw [isU8_eq] at h2
    have h3 : k = .u8 := by simpa using h2
    subst h3
    exact hru w

theorem cConv_ok (c : OpAt P E D ε h n w a lc fr l) (s d : TypeId) (x : Operand) (hx : ∀ u, x = .tmp u → u ∈ l) {q : QF} (hq : cConv E s d x = some q) :
    QRes D ε n w (q lc fr h n) ((do pure (.value (← convert s d (a.eval x))) : Sem Next).run P w) := by
  unfold cConv at hq
  rw [ob_eq_some] at hq
  obtain ⟨i, hi, hq⟩ := hq
  rw [ob_eq_some] at hq
  obtain ⟨j, hj, hq⟩ := hq
  obtain ⟨sd, _, hse, hsr⟩ := (c.env.tyOk hi).run_underlying
  obtain ⟨dd, _, hde, hdr⟩ := (c.env.tyOk hj).run_underlying
  rw [hse, hde] at hq
  have key : (∃ k, dd = .int k ∧ q = qToInt k (cOpd x)) ∨ (sd = .string ∧ dd = .string ∧ q = qToStr (cOpd x)) ∨ (∃ e, sd = .string ∧ dd = .slice e ∧ isU8T E e = true ∧ q = qToBytes (cOpd x)) ∨
      (∃ e, sd = .slice e ∧ dd = .string ∧ isU8T E e = true ∧ q = qFromBytes (cOpd x)) := by
    cases dd with
    | int k =>
      cases sd with
      | int k2 =>
        have hq' : some (qToInt k (cOpd x)) = some q := hq
        injection hq' with hq'
        exact .inl ⟨k, rfl, hq'.symm⟩
      | _ => cases hq
    | string =>
      cases sd with
      | string =>
        have hq' : some (qToStr (cOpd x)) = some q := hq
        injection hq' with hq'
        exact .inr (.inl ⟨rfl, rfl, hq'.symm⟩)
      | slice e =>
        have hq' : bi (andb true (isU8T E e)) (some (qFromBytes (cOpd x))) none = some q := hq
        rw [bi_eq] at hq'
        split at hq'
        · rename_i hs
          simp only [andb_eq, Bool.and_eq_true] at hs
          injection hq' with hq'
          exact .inr (.inr (.inr ⟨e, rfl, rfl, hs.2, hq'.symm⟩))
        · cases hq'
      | _ => cases hq
    | slice e =>
      cases sd with
      | string =>
        have hq' : bi (isU8T E e) (some (qToBytes (cOpd x))) none = some q := hq
        rw [bi_eq] at hq'
        split at hq'
        · rename_i hu
          injection hq' with hq'
          exact .inr (.inr (.inl ⟨e, rfl, rfl, hu, hq'.symm⟩))
        · cases hq'
      | slice e2 =>
        have hq' : bi (andb false (isU8T E e2)) (some (qFromBytes (cOpd x))) none = some q := hq
        cases hq'
      | _ => cases hq
    | _ =>
      cases sd <;> first
        | (cases hq; done)
  rcases key with ⟨k, rfl, rfl⟩ | ⟨rfl, rfl, rfl⟩ | ⟨e, rfl, rfl, hu, rfl⟩ | ⟨e, rfl, rfl, hu, rfl⟩
  · refine oq_elim (Φ := fun r => QRes D ε n w r _) trivial fun v hv => ?_
    obtain ⟨h1, h2⟩ := c.gt hv hx
    refine onInt_elim (Φ := fun r => QRes D ε n w r _) trivial fun k' z hz => ?_
    subst hz
    refine .mkVal ?_ (by simp [okv])
    simp only [convert, Sem.run_bind, hsr, hdr, Result.andThen_ok, h1, g, Conv.intToInt, Sem.run_pure, wrapA_eq]
  · refine oq_elim (Φ := fun r => QRes D ε n w r _) trivial fun v hv => ?_
    obtain ⟨h1, h2⟩ := c.gt hv hx
    refine onStr_elim (Φ := fun r => QRes D ε n w r _) trivial fun z hz => ?_
    subst hz
    refine .mkVal ?_ (by simp [okv])
    simp only [convert, Sem.run_bind, hsr, hdr, Result.andThen_ok, h1, g, Sem.run_pure]
  · refine oq_elim (Φ := fun r => QRes D ε n w r _) trivial fun v hv => ?_
    obtain ⟨h1, h2⟩ := c.gt hv hx
    refine onStr_elim (Φ := fun r => QRes D ε n w r _) trivial fun z hz => ?_
    subst hz
    have ha := fun cap => Env.at_agree (D := D) c.new ε w.heap.size 0 cap
    obtain ⟨cap, hcap⟩ : ∃ cap, cap = z.length + w.tape w.drawn (.appendCap z.length 0 e) % (2 ^ 63 - z.length) := ⟨_, rfl⟩
    have hle : z.length ≤ cap := by rw [hcap]; omega
    obtain ⟨arr, harr⟩ : ∃ arr : Array Value, arr = (z.map fun b => Value.int .u8 (b.toNat : Int)).toArray ++ Array.replicate (cap - z.length) (.int .u8 0) := ⟨_, rfl⟩
    have hsz : arr.size = cap := by rw [harr]; simp; omega
    refine ⟨{ heap := w.heap.push (.cells arr e (cap, cap + 1)), tape := w.tape, drawn := w.drawn + 1, os := w.os, output := w.output }, .cells arr e (cap, cap + 1), ε.at n w.heap.size 0 cap, ?_, rfl, ⟨rfl, rfl, rfl⟩, ha cap, Env.at_blk .., ?_, ?_⟩
    · simp only [convert, Sem.run_bind, hsr, hdr, Result.andThen_ok, h1, g, isU8T_ok c.env hu, Conv.stringToBytes, run_choose, Question.forced, Bool.false_eq_true, if_false, Question.cut]
      have e1 : (⟨z.toArray⟩ : ByteArray).size = z.length := rfl
      rw [e1, ← hcap]
      have e2 : (Array.map (fun b : UInt8 => Value.int .u8 (b.toNat : Int)) (⟨z.toArray⟩ : ByteArray).data ++ Array.replicate (cap - z.length) (Value.int .u8 0)) = arr := by rw [harr]; simp
      rw [e2]
      simp only [newRow, Sem.run_bind, run_newObj, Result.andThen_ok, Sem.run_pure]
      rw [run_markStringish P _ w.heap.size arr e (by simp)]
      simp only [Result.andThen_ok, World.freeze, Nat.one_ne_zero, if_false, push_modify, hsz, Env.at, gCap, if_true, Nat.add_zero, Nat.sub_zero, beq_self_eq_true, llen_eq]
    · simp [okv, Plus, capOk, Env.at_ext, hle]
    · refine ⟨arr, e, (cap, cap + 1), rfl, ?_, ?_, ?_, fun hf => (by cases hf), fun zz hz => ?_⟩
      · intro i v hv
        simp only [row, List.reverse_nil, List.append_nil, bytesCells_eq] at hv
        rw [Env.at_sft, Nat.zero_add, harr]
        rw [List.getElem?_map] at hv
        cases hb : z[i]? with
        | none => rw [hb] at hv; cases hv
        | some b =>
          rw [hb] at hv
          injection hv with hv
          subst hv
          have hi : i < z.length := (List.getElem?_eq_some_iff.1 hb).1
          rw [Array.getElem?_append_left (by simpa using hi)]
          simp [hb, g]
      · intro cc hc
        simp only [row, List.reverse_nil, List.append_nil, bytesCells_eq, List.mem_map] at hc
        obtain ⟨b, _, rfl⟩ := hc
        simp [okv, one1]
      · intro off hoff
        rw [hsz] at hoff
        simp only [Bool.and_eq_false_iff, decide_eq_false_iff_not]
        omega
      · injection hz with hz
        subst hz
        simp only [row, List.reverse_nil, List.append_nil, bytesCells_eq, List.length_map, llen_eq, Env.at_sft, Env.at_ext, hsz]
        exact ⟨trivial, by omega⟩
  · refine oq_elim (Φ := fun r => QRes D ε n w r _) trivial fun v hv => ?_
    obtain ⟨h1, h2⟩ := c.gt hv hx
    refine onSlc_elim (Φ := fun r => QRes D ε n w r _) trivial (fun hn => ?_) fun id off len cap hp => ?_
    · subst hn
      refine .mkVal ?_ (by simp [okv])
      simp only [convert, Sem.run_bind, hsr, hdr, Result.andThen_ok, h1, g, isU8T_ok c.env hu, Conv.bytesToString, Sem.run_pure]
      rfl
    · subst hp
      refine oq_elim (Φ := fun r => QRes D ε n w r _) trivial fun cs hcs => ?_
      refine oq_elim (Φ := fun r => QRes D ε n w r _) trivial fun bs hbs => ?_
      obtain ⟨h3, _, _⟩ := readCells_ok (P := P) c.sim hcs
      obtain ⟨ns, rfl, rfl⟩ := cellsBytes_some hbs
      refine .mkVal ?_ (by simp [okv])
      simp only [convert, Sem.run_bind, hsr, hdr, Result.andThen_ok, h1, g, isU8T_ok c.env hu]
      rw [run_bytesToString w _ len _ ns (by rw [h3]; congr 2; simp [g])]
      simp [fold_push]

end ops
end Go.Proofs.YtbcnedhhebjhdaaGreatDoor.Fa

/-
  The quiet operations, against the model's: slices, indexes, iterators, lengths.
-/
namespace Go.Proofs.YtbcnedhhebjhdaaGreatDoor.Fa

section ops
variable {P : Program} {E : Env0} {D : Nat → Prop} {ε : Env} {h : Heap} {n : Nat} {w : World} {a : Act} {lc : Lc} {fr : Tr AV} {l : List Nat}

/-! ### Simple makings -/
theorem cIface_ok (c : OpAt P E D ε h n w a lc fr l) (t : TypeId) (x : Operand) (hx : ∀ u, x = .tmp u → u ∈ l) {q : QF} (hq : cIface E t x = some q) :
    QRes D ε n w (q lc fr h n) ((do pure (.value (← Instr.makeInterface t (a.eval x))) : Sem Next).run P w) := by
  unfold cIface at hq
  rw [ob_eq_some] at hq
  obtain ⟨i, hi, hq⟩ := hq
  rw [bi_eq] at hq
  split at hq
  · cases hq
  · rename_i hf
    injection hq with hq
    subst hq
    obtain ⟨d, hd, he, hru⟩ := (c.env.tyOk hi).run_underlying
    refine oq_elim (Φ := fun r => QRes D ε n w r _) trivial fun v hv => ?_
    obtain ⟨h1, h2⟩ := c.gt hv hx
    refine .mkVal ?_ (by simp only [okv]; exact h2)
    rw [he] at hf
    cases d <;> first | (exact absurd rfl hf) | simp [Instr.makeInterface, hru, h1, g]

theorem gts_ok (c : OpAt P E D ε h n w a lc fr l) : ∀ (xs : List Operand) (vs : List AV), gts (xs.map cOpd) lc fr = some vs → (∀ x ∈ xs, ∀ u, x = .tmp u → u ∈ l) → xs.map a.eval = vs.map (g ε) ∧ ∀ v ∈ vs, okv D ε v := by
  intro xs
  induction xs with
  | nil => intro vs hv _; injection hv with hv; subst hv; exact ⟨rfl, fun v hv => by cases hv⟩
  | cons x xs ih =>
    intro vs hv hx
    have hv' : ob (gt (cOpd x) lc fr) (fun b => ob (gts (xs.map cOpd) lc fr) fun bs => some (b :: bs)) = some vs := hv
    rw [ob_eq_some] at hv'
    obtain ⟨b, hb, hv'⟩ := hv'
    rw [ob_eq_some] at hv'
    obtain ⟨bs, hbs, hv'⟩ := hv'
    injection hv' with hv'
    subst hv'
    obtain ⟨h1, h2⟩ := c.gt hb (hx x List.mem_cons_self)
    obtain ⟨h3, h4⟩ := ih bs hbs fun y hy => hx y (List.mem_cons_of_mem _ hy)
    refine ⟨by simp [h1, h3], fun v hv => ?_⟩
    rcases List.mem_cons.1 hv with hv | hv
    · rw [hv]; exact h2
    · exact h4 v hv

theorem cFunc_ok (c : OpAt P E D ε h n w a lc fr l) (f : Fn) (p r : Array Operand) (hp : ∀ x ∈ p.toList, ∀ u, x = .tmp u → u ∈ l) (hr : ∀ x ∈ r.toList, ∀ u, x = .tmp u → u ∈ l) {q : QF} (hq : cFunc f p.toList r.toList = some q) :
    QRes D ε n w (q lc fr h n) ((do pure (.value (← Instr.makeFunc f (p.map a.eval) (r.map a.eval))) : Sem Next).run P w) := by
  unfold cFunc at hq
  rw [bi_eq] at hq
  split at hq
  · rename_i hf
    injection hq with hq
    subst hq
    refine oq_elim (Φ := fun r => QRes D ε n w r _) trivial fun ps hps => ?_
    refine oq_elim (Φ := fun r => QRes D ε n w r _) trivial fun rs hrs => ?_
    obtain ⟨h1, h2⟩ := gts_ok c _ _ hps hp
    obtain ⟨h3, h4⟩ := gts_ok c _ _ hrs hr
    cases f <;> first | (cases hf; done) | skip
    refine .mkVal ?_ (by simp only [okv]; exact ⟨fun l hl => (by cases hl), h2, h4⟩)
    have e1 : p.map a.eval = (ps.map (g ε)).toArray := by apply Array.ext'; simp [h1]
    have e2 : r.map a.eval = (rs.map (g ε)).toArray := by apply Array.ext'; simp [h3]
    simp [Instr.makeFunc, g, gFn, e1, e2]
  · cases hq

/-- A new object of the call's own, that is no row. -/
theorem newObj_res (c : OpAt P E D ε h n w a lc fr l) {v : AV} {b : ABlk} (o : Obj) {res : Result Next}
    (hv : ∀ ε', ε' = ε.at n w.heap.size 0 0 → Agree D ε ε' → okv (Plus D n) ε' v ∧ BlkOk (Plus D n) ε' n b o ∧ res = .ok (.value (g ε' v)) { w with heap := w.heap.push o }) :
    QRes D ε n w (.made v b) res := by
  have ha := Env.at_agree c.new ε w.heap.size 0 0
  obtain ⟨h1, h2, h3⟩ := hv _ rfl ha
  exact ⟨_, o, ε.at n w.heap.size 0 0, h3, rfl, ⟨rfl, rfl, rfl⟩, ha, Env.at_blk .., h1, h2⟩

theorem cMakeMap_ok (c : OpAt P E D ε h n w a lc fr l) (t : TypeId) (r : Option Operand) (hr : ∀ x, r = some x → ∀ u, x = .tmp u → u ∈ l) {q : QF} (hq : cMakeMap E t r = some q) :
    QRes D ε n w (q lc fr h n) ((do pure (.value (← Instr.makeMap t (r.map a.eval))) : Sem Next).run P w) := by
  cases r with
  | none =>
    injection hq with hq
    subst hq
    refine newObj_res c (.map #[] 0) fun ε' he _ => ⟨by simp [okv, Plus], ⟨rfl, fun e he => (by cases he)⟩, ?_⟩
    subst he
    simp [Instr.makeMap, g, Env.at]
  | some x =>
    have hq' : ob (E.type t) (fun i => onMapD none (fun _ _ => some (qMakeMapN (cOpd x))) i.desc) = some q := hq
    rw [ob_eq_some] at hq'
    obtain ⟨i, hi, hq'⟩ := hq'
    obtain ⟨d, hd, he, hru⟩ := (c.env.tyOk hi).run_underlying
    rw [he] at hq'
    obtain ⟨k, e, rfl, hq2⟩ := onMapD_some hq'
    injection hq2 with hq2
    subst hq2
    refine oq_elim (Φ := fun r => QRes D ε n w r _) trivial fun v hv => ?_
    obtain ⟨h1, h2⟩ := c.gt hv (hr x rfl)
    refine onInt_elim (Φ := fun r => QRes D ε n w r _) trivial fun j z hz => ?_
    subst hz
    refine newObj_res c (.map #[] 0) fun ε' he _ => ⟨by simp [okv, Plus], ⟨rfl, fun e he => (by cases he)⟩, ?_⟩
    subst he
    simp [Instr.makeMap, g, Env.at, hru, h1, asInt, asIntOf]

theorem cMakeSlice_ok (c : OpAt P E D ε h n w a lc fr l) (t : TypeId) (x y : Operand) (hx : ∀ u, x = .tmp u → u ∈ l) (hy : ∀ u, y = .tmp u → u ∈ l) {q : QF} (hq : cMakeSlice E t x y = some q) :
    QRes D ε n w (q lc fr h n) ((do pure (.value (← Instr.makeSlice t (a.eval x) (a.eval y))) : Sem Next).run P w) := by
  unfold cMakeSlice at hq
  rw [ob_eq_some] at hq
  obtain ⟨i, hi, hq⟩ := hq
  obtain ⟨d, hd, he, hru⟩ := (c.env.tyOk hi).run_underlying
  rw [he] at hq
  obtain ⟨e, rfl, hq2⟩ := onSliceD_some hq
  rw [ob_eq_some] at hq2
  obtain ⟨j, hj, hq2⟩ := hq2
  rw [ob_eq_some] at hq2
  obtain ⟨z, hz, hq2⟩ := hq2
  injection hq2 with hq2
  subst hq2
  obtain ⟨j', v, hj', hzv, hvc, hzc, hzl⟩ := zeroCells_ok (ε := ε) (D := D) c.env hz
  obtain ⟨info, hinfo, _, hbytes, _, _, hri⟩ := (c.env.tyOk hj).run_typeInfo
  rw [hj] at hj'
  injection hj' with hj'
  subst hj'
  refine oq_elim (Φ := fun r => QRes D ε n w r _) trivial fun lv hlv => ?_
  obtain ⟨h1, _⟩ := c.gt hlv hx
  refine onInt_elim (Φ := fun r => QRes D ε n w r _) trivial fun k1 z1 hz1 => onNat_elim (Φ := fun r => QRes D ε n w r _) trivial fun len hlen => ?_
  subst hz1; subst hlen
  refine oq_elim (Φ := fun r => QRes D ε n w r _) trivial fun cv hcv => ?_
  obtain ⟨h2, _⟩ := c.gt hcv hy
  refine onInt_elim (Φ := fun r => QRes D ε n w r _) trivial fun k2 z2 hz2 => onNat_elim (Φ := fun r => QRes D ε n w r _) trivial fun cap hcap => ?_
  subst hz2; subst hcap
  refine bi_elim (Φ := fun r => QRes D ε n w r _) (fun hb => ?_) fun _ => trivial
  simp only [andb_eq, Bool.and_eq_true] at hb
  have hb1 : len ≤ cap := Nat.le_of_ble_eq_true hb.1
  have hb2 : j.bytes * cap ≤ 1000000000 := Nat.le_of_ble_eq_true hb.2.1
  have hb3 : cap ≤ 1000000000 := Nat.le_of_ble_eq_true hb.2.2
  refine newRow_res c (hzc.rep cap) e fun ε' he' => ⟨by simp [okv, Plus, capOk, hb1], ?_⟩
  subst he'
  have w1 : IntKind.i64.wrap (len : Int) = len := by rw [IntKind.wrap_i64]; omega
  have w2 : IntKind.i64.wrap (cap : Int) = cap := by rw [IntKind.wrap_i64]; omega
  have hsz := (c.env.tyOk hj).run_sizeOf w
  rw [← hzl] at hsz
  rw [hbytes] at hb2
  have hb5 : ((info.bytes * cap : Nat) : Int) = (info.bytes : Int) * (cap : Int) := Int.natCast_mul _ _
  have hb4 : (info.bytes : Int) * (cap : Int) ≤ 1000000000 := by omega
  simp only [Instr.makeSlice, Sem.run_bind, hru, Result.andThen_ok, h1, h2, g, asInt, asIntOf, Sem.run_pure, hri, Int.ofNat_eq_natCast, w1, w2]
  have hcond : (decide ((cap : Int) < 0) || decide ((info.bytes : Int) * (cap : Int) > 2 ^ 48) || decide ((len : Int) < 0) || decide ((len : Int) > (cap : Int))) = false := by
    simp only [Bool.or_eq_false_iff, decide_eq_false_iff_not]
    omega
  rw [hcond]
  simp only [Bool.false_eq_true, if_false, Sem.run_bind, run_askRoom, Result.andThen_ok, hsz, Int.toNat_natCast, Sem.run_ite, Sem.run_pure, hzv, hvc]
  by_cases h0 : cap * z.length = 0
  · have hr0 : (lrep z cap).map (g ε) = [] := by
      rw [lrep_map]
      apply List.eq_nil_of_length_eq_zero
      simp [h0]
    have hra : ∀ f : Nat → Value, (Array.range 0).map f = #[] := fun f => by
      apply Array.ext'
      simp
    rw [if_pos h0, h0, hra, hr0]
    simp [newRow, Env.at, gCap]
  · have hcells : (Array.range (cap * z.length)).map ((z.map (g ε)).toArray[· % (z.map (g ε)).toArray.size]!) = ((lrep z cap).map (g ε)).toArray := by
      rw [lrep_map]
      exact range_rep _ _ _ (by simp)
    rw [if_neg h0, hcells]
    simp [newRow, Env.at, gCap]

/-! ### Slices -/
theorem bound_ok (c : OpAt P E D ε h n w a lc fr l) (x : Option Operand) (hx : ∀ y, x = some y → ∀ u, y = .tmp u → u ∈ l) {dflt most r : Nat} (hr : bound (cOpt x) dflt most lc fr = some r) :
    (x = none ∧ r = dflt) ∨ (∃ o, x = some o ∧ r ≤ most ∧ ∀ (y : Nat) code, r ≤ y → (Instr.sliceBound (a.eval o) y code).run P w = .ok r w) := by
  cases x with
  | none => injection hr with hr; exact .inl ⟨rfl, hr.symm⟩
  | some o =>
    have hr' : ob (gt (cOpd o) lc fr) (onInt none fun _ n => onNat none (fun n => bi (Nat.ble n most) (some n) none) n) = some r := hr
    rw [ob_eq_some] at hr'
    obtain ⟨v, hv, hr'⟩ := hr'
    obtain ⟨h1, _⟩ := c.gt hv (hx o rfl)
    cases v <;> first | (cases hr'; done) | skip
    rename_i k z _
    cases z with
    | negSucc m => cases hr'
    | ofNat m =>
      have h2 : bi (Nat.ble m most) (some m) none = some r := hr'
      rw [bi_eq] at h2
      split at h2
      · rename_i hle
        injection h2 with h2
        subst h2
        refine .inr ⟨o, rfl, Nat.le_of_ble_eq_true hle, fun y code hy => ?_⟩
        have e1 : (0 : Int) ≤ Int.ofNat m ∧ Int.ofNat m ≤ (y : Int) := ⟨Int.natCast_nonneg m, Int.ofNat_le.2 hy⟩
        simp only [Instr.sliceBound, h1, g, asIntOf, Sem.run_bind, Sem.run_pure, Result.andThen_ok, if_pos e1]
        rfl
      · cases h2

theorem bounds3_ok (c : OpAt P E D ε h n w a lc fr l) (isS : Bool) (lo hi mx : Option Operand) (hlo : ∀ y, lo = some y → ∀ u, y = .tmp u → u ∈ l) (hhi : ∀ y, hi = some y → ∀ u, y = .tmp u → u ∈ l)
    (hmx : ∀ y, mx = some y → ∀ u, y = .tmp u → u ∈ l) (hok : hiOk hi mx = true) {len cap cap' : Nat} (hcc : cap ≤ cap') {k : Nat → Nat → Nat → QR} {Φ : QR → Prop} (h0 : Φ .fail)
    (h1 : ∀ i j m, (Instr.sliceBounds isS len cap' (lo.map a.eval) (hi.map a.eval) (mx.map a.eval)).run P w = .ok (i, j, if mx.isSome then m else cap') w → i ≤ j → (j ≤ m ∨ (j = len ∧ m = cap)) → m ≤ cap → (mx = none → m = cap) → Φ (k i j m)) :
    Φ (bounds3 (cOpt lo) (cOpt hi) (cOpt mx) len cap lc fr k) := by
  refine oq_elim h0 fun m hm => oq_elim h0 fun j hj => oq_elim h0 fun i hi' => ?_
  have hlo' := bound_ok c lo hlo hi'
  have hhi' := bound_ok c hi hhi hj
  have hmx' := bound_ok c mx hmx hm
  have low : i ≤ j := by rcases hlo' with ⟨_, rfl⟩ | ⟨o, _, h, _⟩ <;> omega
  have hlow : ∀ code m', ((match lo.map a.eval with | some v => (do let l ← Instr.sliceBound v j code; pure (l, j, m')) | none => (do let l ← pure 0; pure (l, j, m'))) : Sem (Nat × Nat × Nat)).run P w = .ok (i, j, m') w := by
    intro code m'
    rcases hlo' with ⟨rfl, rfl⟩ | ⟨o, rfl, h, hr⟩
    · rfl
    · simp only [Option.map_some, Sem.run_bind, hr j code low, Result.andThen_ok, Sem.run_pure]
  rcases hmx' with ⟨rfl, rfl⟩ | ⟨om, rfl, hme, hmr⟩
  · rcases hhi' with ⟨rfl, rfl⟩ | ⟨oh, rfl, hhe, hhr⟩
    · refine h1 i _ _ ?_ low (.inr ⟨rfl, rfl⟩) (Nat.le_refl _) fun _ => rfl
      simp only [Instr.sliceBounds, Option.map_none, Sem.run_bind, Sem.run_pure, Result.andThen_ok, Option.isSome_none, Bool.false_eq_true, if_false]
      exact hlow _ _
    · refine h1 i _ _ ?_ low (.inl hhe) (Nat.le_refl _) fun _ => rfl
      simp only [Instr.sliceBounds, Option.map_none, Option.map_some, Sem.run_bind, Sem.run_pure, Result.andThen_ok, Option.isSome_none, Bool.false_eq_true, if_false]
      rw [hhr cap' _ (Nat.le_trans hhe hcc)]
      simp only [Result.andThen_ok]
      exact hlow _ _
  · rcases hhi' with ⟨rfl, rfl⟩ | ⟨oh, rfl, hhe, hhr⟩
    · cases hok
    · refine h1 i _ _ ?_ low (.inl hhe) hme fun h => by cases h
      simp only [Instr.sliceBounds, Option.map_some, Sem.run_bind, Option.isSome_some, if_true]
      rw [hmr cap' _ (Nat.le_trans hme hcc)]
      simp only [Result.andThen_ok]
      rw [hhr m _ hhe]
      simp only [Result.andThen_ok]
      exact hlow _ _

theorem offAt_eq (id off l m s : Nat) : (if m = l then (⟨ε.blk id, ε.sft id + off, none⟩ : Addr) else (⟨ε.blk id, ε.sft id + off, none⟩ : Addr).add (l * s)) = ⟨ε.blk id, ε.sft id + offAt off l m s, none⟩ := by
  unfold offAt
  rw [bi_eq, nbeq]
  by_cases h : m = l
  · simp [h]
  · simp [h, add_addr, Nat.add_assoc]

theorem cSlice_ok (c : OpAt P E D ε h n w a lc fr l) (t : TypeId) (x : Operand) (lo hi mx : Option Operand) (hx : ∀ u, x = .tmp u → u ∈ l) (hlo : ∀ y, lo = some y → ∀ u, y = .tmp u → u ∈ l) (hhi : ∀ y, hi = some y → ∀ u, y = .tmp u → u ∈ l)
    (hmx : ∀ y, mx = some y → ∀ u, y = .tmp u → u ∈ l) {q : QF} (hq : cSlice E t x lo hi mx = some q) :
    QRes D ε n w (q lc fr h n) ((do pure (.value (← Instr.sliceAt t (a.eval x) (lo.map a.eval) (hi.map a.eval) (mx.map a.eval))) : Sem Next).run P w) := by
  unfold cSlice at hq
  rw [bi_eq] at hq
  split at hq
  · rename_i hok
    rw [ob_eq_some] at hq
    obtain ⟨i, hi', hq⟩ := hq
    obtain ⟨d, hd, he, hru⟩ := (c.env.tyOk hi').run_underlying
    rw [he] at hq
    have key : (d = .string ∧ mx = none ∧ q = qSliceStr (cOpt lo) (cOpt hi) (cOpd x)) ∨ (∃ e s, d = .slice e ∧ E.size e = some s ∧ q = qSliceSl s (cOpt lo) (cOpt hi) (cOpt mx) (cOpd x)) ∨
        (∃ m e s, d = .array m e ∧ E.size e = some s ∧ q = qSliceArr m s (cOpt lo) (cOpt hi) (cOpt mx) (cOpd x)) := by
      cases d with
      | string =>
        have hq' : bi mx.isNone (some (qSliceStr (cOpt lo) (cOpt hi) (cOpd x))) none = some q := hq
        rw [bi_eq] at hq'
        split at hq'
        · rename_i hm
          injection hq' with hq'
          exact .inl ⟨rfl, by simpa using hm, hq'.symm⟩
        · cases hq'
      | slice e =>
        have hq' : ob (E.size e) (fun s => some (qSliceSl s (cOpt lo) (cOpt hi) (cOpt mx) (cOpd x))) = some q := hq
        rw [ob_eq_some] at hq'
        obtain ⟨s, hs, hq'⟩ := hq'
        injection hq' with hq'
        exact .inr (.inl ⟨e, s, rfl, hs, hq'.symm⟩)
      | array m e =>
        have hq' : ob (E.size e) (fun s => some (qSliceArr m s (cOpt lo) (cOpt hi) (cOpt mx) (cOpd x))) = some q := hq
        rw [ob_eq_some] at hq'
        obtain ⟨s, hs, hq'⟩ := hq'
        injection hq' with hq'
        exact .inr (.inr ⟨m, e, s, rfl, hs, hq'.symm⟩)
      | _ => cases hq
    rcases key with ⟨rfl, rfl, rfl⟩ | ⟨e, s, rfl, hs, rfl⟩ | ⟨m, e, s, rfl, hs, rfl⟩
    · refine oq_elim (Φ := fun r => QRes D ε n w r _) trivial fun v hv => ?_
      obtain ⟨h1, _⟩ := c.gt hv hx
      refine onStr_elim (Φ := fun r => QRes D ε n w r _) trivial fun z hz => ?_
      subst hz
      refine bounds3_ok c false lo hi none hlo hhi hmx hok (cap' := llen z) (Nat.le_refl _) (Φ := fun r => QRes D ε n w r _) trivial fun i j m hr _ _ _ _ => ?_
      refine oq_elim (Φ := fun r => QRes D ε n w r _) trivial fun r hseg => ?_
      obtain ⟨h3, _, _⟩ := segment_some hseg
      refine .mkVal ?_ (by simp [okv])
      have e1 : (⟨z.toArray⟩ : ByteArray).size = llen z := by rw [llen_eq]; rfl
      simp only [Option.map_none] at hr
      simp only [Instr.sliceAt, Instr.slice, Sem.run_bind, hru, Result.andThen_ok, h1, g, Option.map_none, Option.isSome_none, Bool.false_eq_true, if_false, e1, hr, Sem.run_pure]
      congr 3
      apply ByteArray.ext
      simp only [ByteArray.data_extract]
      apply Array.ext'
      rw [h3]
      simp [List.extract]
    · refine oq_elim (Φ := fun r => QRes D ε n w r _) trivial fun v hv => ?_
      obtain ⟨h1, h2⟩ := c.gt hv hx
      have hsz := c.env.run_size hs w
      refine onSlc_elim (Φ := fun r => QRes D ε n w r _) trivial (fun hn => ?_) fun id off len cp hp => ?_
      · subst hn
        refine bounds3_ok c true lo hi mx hlo hhi hmx hok (cap' := 0) (Nat.le_refl _) (Φ := fun r => QRes D ε n w r _) trivial fun i j m hr h5 h6 h7 h8 => ?_
        refine .mkVal ?_ (by simp [okv])
        have hj : j = 0 := by omega
        have hi0 : i = 0 := by omega
        have hm0 : (if mx.isSome = true then m else 0) = 0 := by split <;> omega
        simp only [Instr.sliceAt, Instr.slice, Sem.run_bind, hru, Result.andThen_ok, h1, g, hr, hsz, Sem.run_pure, hm0, hj, hi0]
        simp
      · subst hp
        simp only [okv] at h2
        cases cp with
        | exact cap =>
          refine bounds3_ok c true lo hi mx hlo hhi hmx hok (cap' := cap) (Nat.le_refl _) (Φ := fun r => QRes D ε n w r _) trivial fun i j m hr h5 h6 h7 h8 => ?_
          have hcp : len ≤ cap := h2.2
          have hm : (if mx.isSome = true then m else cap) = m := by
            cases mx with
            | none => simp [h8 rfl]
            | some _ => simp
          rw [hm] at hr
          refine .mkVal ?_ (by simp only [okv]; exact ⟨h2.1, by simp only [capOk, Nat.sub_eq]; omega⟩)
          simp only [Instr.sliceAt, Instr.slice, Sem.run_bind, hru, Result.andThen_ok, h1, g, gCap, hr, hsz, Sem.run_pure]
          rw [← offAt_eq]
          simp only [Option.map_some, Nat.sub_eq]
          congr 3
          split <;> rfl
        | grown gg =>
          have hcp : gg + len ≤ ε.ext id := h2.2
          refine bounds3_ok c true lo hi mx hlo hhi hmx hok (cap' := ε.ext id - gg) (by omega) (Φ := fun r => QRes D ε n w r _) trivial fun i j m hr h5 h6 h7 h8 => ?_
          cases mx with
          | some om =>
            simp only [Option.isSome_some, if_true] at hr
            refine QRes.mkVal (v := .slc id (offAt off i m s) (j - i) (.exact (m - i))) ?_ (by simp only [okv]; exact ⟨h2.1, by simp only [capOk]; omega⟩)
            simp only [Instr.sliceAt, Instr.slice, Sem.run_bind, hru, Result.andThen_ok, h1, g, gCap, hr, hsz, Sem.run_pure]
            rw [← offAt_eq]
            simp only [Option.map_some]
            congr 3
            split <;> rfl
          | none =>
            simp only [Option.isSome_none, Bool.false_eq_true, if_false] at hr
            have hm := h8 rfl
            subst hm
            have hjm : j ≤ m := by omega
            show QRes D ε n w (mkGrown id off s gg n i j) _
            have hrun : ((do pure (.value (← Instr.sliceAt t (a.eval x) (lo.map a.eval) (hi.map a.eval) (none.map a.eval))) : Sem Next).run P w) =
                .ok (.value (.slice (some ⟨ε.blk id, ε.sft id + offAt off i (ε.ext id - gg) s, none⟩) (j - i) (ε.ext id - gg - i))) w := by
              simp only [Instr.sliceAt, Instr.slice, Sem.run_bind, hru, Result.andThen_ok, h1, g, gCap, hr, hsz, Sem.run_pure]
              rw [← offAt_eq]
              simp only [Option.map_some]
              congr 3
              split <;> rfl
            rw [hrun]
            unfold mkGrown
            refine bi_elim (Φ := fun r => QRes D ε n w r _) (fun hi0 => ?_) fun hi0 => bi_elim (Φ := fun r => QRes D ε n w r _) (fun hij => ?_) fun hij => ?_
            · rw [nbeq] at hi0
              have hi0' : i = 0 := by simpa using hi0
              subst hi0'
              refine .mkVal ?_ (by simp only [okv]; exact ⟨h2.1, by simp only [capOk]; omega⟩)
              have : offAt off 0 (ε.ext id - gg) s = off := by unfold offAt; rw [bi_eq]; split <;> simp
              rw [this]
              simp [g, gCap]
            · have hij' : i < j := by simpa [Nat.blt_eq] using hij
              refine .mkVal ?_ (by simp only [okv]; exact ⟨h2.1, by simp only [capOk, Nat.sub_eq, Nat.add_eq]; omega⟩)
              have : offAt off i (ε.ext id - gg) s = Nat.add off (Nat.mul i s) := by
                unfold offAt
                rw [bi_eq, nbeq, if_neg (by simp; omega)]
              rw [this]
              simp only [g, gCap, Nat.sub_eq, Nat.add_eq, Nat.mul_eq]
              congr 3
              omega
            · have hij' : i = j := by
                have : ¬ i < j := fun h' => by rw [show Nat.blt i j = true from by rw [Nat.blt_eq]; exact h'] at hij; cases hij
                omega
              subst hij'
              have ha := Env.at_agree (D := D) c.new ε (ε.blk id) (ε.sft id + offAt off i (ε.ext id - gg) s) (ε.ext id - gg - i)
              refine ⟨w, ε.at n (ε.blk id) (ε.sft id + offAt off i (ε.ext id - gg) s) (ε.ext id - gg - i), ?_, rfl, .refl w, ha, ?_⟩
              · simp [g, gCap, Env.at]
              · simp [okv, Plus, capOk]
    · refine oq_elim (Φ := fun r => QRes D ε n w r _) trivial fun v hv => ?_
      obtain ⟨h1, h2⟩ := c.gt hv hx
      have hsz := c.env.run_size hs w
      refine onPtr_elim (Φ := fun r => QRes D ε n w r _) trivial fun id off hp => ?_
      subst hp
      simp only [okv] at h2
      refine bounds3_ok c false lo hi mx hlo hhi hmx hok (cap' := m) (Nat.le_refl _) (Φ := fun r => QRes D ε n w r _) trivial fun i j mm hr h5 h6 h7 h8 => ?_
      have hm : (if mx.isSome = true then mm else m) = mm := by
        cases mx with
        | none => simp [h8 rfl]
        | some _ => simp
      rw [hm] at hr
      refine .mkVal ?_ (by simp only [okv]; exact ⟨h2, by simp only [capOk, Nat.sub_eq]; omega⟩)
      simp only [Instr.sliceAt, Instr.sureAddr, Sem.run_bind, hru, Result.andThen_ok, h1, g, gCap, hr, hsz, Sem.run_pure]
      rw [← offAt_eq]
      rfl
  · cases hq

end ops
end Go.Proofs.YtbcnedhhebjhdaaGreatDoor.Fa

/-
  The quiet operations, against the model's: indexes, iterators, assertions, lengths, maps.
-/
namespace Go.Proofs.YtbcnedhhebjhdaaGreatDoor.Fa

theorem bytes_get (z : List UInt8) (m : Nat) : (⟨z.toArray⟩ : ByteArray)[m]? = z[m]? := by
  by_cases h : m < z.length
  · rw [getElem?_pos (⟨z.toArray⟩ : ByteArray) m h]
    simp [List.getElem?_eq_getElem h]
    rfl
  · rw [getElem?_neg (⟨z.toArray⟩ : ByteArray) m h]
    simp [List.getElem?_eq_none (Nat.le_of_not_lt h)]

section ops
variable {P : Program} {E : Env0} {D : Nat → Prop} {ε : Env} {h : Heap} {n : Nat} {w : World} {a : Act} {lc : Lc} {fr : Tr AV} {l : List Nat}

theorem cIndex_ok (c : OpAt P E D ε h n w a lc fr l) (t : TypeId) (x y : Operand) (hx : ∀ u, x = .tmp u → u ∈ l) (hy : ∀ u, y = .tmp u → u ∈ l) {q : QF} (hq : cIndex E t x y = some q) :
    QRes D ε n w (q lc fr h n) ((do pure (.value (← Instr.index t (a.eval x) (a.eval y))) : Sem Next).run P w) := by
  unfold cIndex at hq
  rw [ob_eq_some] at hq
  obtain ⟨i, hi, hq⟩ := hq
  obtain ⟨d, hd, he, hru⟩ := (c.env.tyOk hi).run_underlying
  rw [he] at hq
  have key : (d = .string ∧ q = qIndexStr (cOpd x) (cOpd y)) ∨ (∃ m e s, d = .array m e ∧ E.size e = some s ∧ q = qIndexArr E m s e (cOpd x) (cOpd y)) := by
    cases d with
    | string =>
      have hq' : some (qIndexStr (cOpd x) (cOpd y)) = some q := hq
      injection hq' with hq'
      exact .inl ⟨rfl, hq'.symm⟩
    | array m e =>
      have hq' : ob (E.size e) (fun s => some (qIndexArr E m s e (cOpd x) (cOpd y))) = some q := hq
      rw [ob_eq_some] at hq'
      obtain ⟨s, hs, hq'⟩ := hq'
      injection hq' with hq'
      exact .inr ⟨m, e, s, rfl, hs, hq'.symm⟩
    | _ => cases hq
  rcases key with ⟨rfl, rfl⟩ | ⟨m, e, s, rfl, hs, rfl⟩
  · refine oq_elim (Φ := fun r => QRes D ε n w r _) trivial fun v hv => ?_
    obtain ⟨h1, _⟩ := c.gt hv hx
    refine onStr_elim (Φ := fun r => QRes D ε n w r _) trivial fun z hz => ?_
    subst hz
    refine idx_elim (Φ := fun r => QRes D ε n w r _) trivial fun j k hk => ?_
    obtain ⟨h3, _⟩ := c.gt hk hy
    refine oq_elim (Φ := fun r => QRes D ε n w r _) trivial fun b hb => ?_
    rw [lget_eq] at hb
    refine .mkVal ?_ (by simp [okv])
    have e1 : (0 : Int) ≤ Int.ofNat k := Int.natCast_nonneg k
    simp only [Instr.index, h1, h3, g, asIntOf, Sem.run_bind, Sem.run_pure, Result.andThen_ok, hru, if_pos e1]
    have e2 : (Int.ofNat k).toNat = k := rfl
    rw [e2, bytes_get, hb]
    simp
  · refine oq_elim (Φ := fun r => QRes D ε n w r _) trivial fun v hv => ?_
    obtain ⟨h1, h2⟩ := c.gt hv hx
    refine onAgg_elim (Φ := fun r => QRes D ε n w r _) trivial fun cs hcs => ?_
    subst hcs
    refine idx_elim (Φ := fun r => QRes D ε n w r _) trivial fun j k hk => ?_
    obtain ⟨h3, _⟩ := c.gt hk hy
    refine bi_elim (Φ := fun r => QRes D ε n w r _) (fun hlt => ?_) fun _ => trivial
    refine oq_elim (Φ := fun r => QRes D ε n w r _) trivial fun r hr => ?_
    have hlt' : k < m := by simpa [Nat.blt_eq] using hlt
    simp only [okv] at h2
    obtain ⟨h4, h5⟩ := part_ok c.env hr h2 w
    refine .mkVal ?_ h5
    have hsz := c.env.run_size hs w
    have e1 : (0 : Int) ≤ Int.ofNat k ∧ Int.ofNat k < (m : Int) := ⟨Int.natCast_nonneg k, Int.ofNat_lt.2 hlt'⟩
    have e2 : (Int.ofNat k).toNat = k := rfl
    simp only [Instr.index, h1, h3, g, asIntOf, Sem.run_bind, Sem.run_pure, Result.andThen_ok, hru, if_pos e1, hsz, e2]
    rw [show k * s = Nat.mul k s from rfl, h4]
    rfl

theorem mapAt_ok (hs : Sim D ε h.find w) {id : Nat} {y : List Ent × Nat} (hy : mapAt h id = some y) : w.heap[ε.blk id]? = some (.map (y.1.map (gEnt ε)).toArray y.2) ∧ D id ∧ ∀ e ∈ y.1, entOk D ε e := by
  unfold mapAt at hy
  rw [ob_eq_some] at hy
  obtain ⟨b, hb, hy⟩ := hy
  cases b <;> first | (cases hy; done) | skip
  rename_i es clk
  injection hy with hy
  subst hy
  obtain ⟨x, hx, rfl, ho⟩ := hs.obj id _ hb
  exact ⟨hx, hs.there id _ hb, ho⟩

theorem run_getObj (P : Program) (w : World) {r : Nat} {o : Obj} (hr : w.heap[r]? = some o) (hc : ∀ c T fz, o ≠ .cells c T fz) : (getObj r).run P w = .ok o w := by
  simp only [getObj, Sem.run, hr]
theorem run_setObj (P : Program) (w : World) {r : Nat} {o o' : Obj} (hr : w.heap[r]? = some o) (hc : ∀ c T fz, o ≠ .cells c T fz) : (setObj r o').run P w = .ok () { w with heap := w.heap.setIfInBounds r o' } := by
  simp only [setObj, Sem.run, hr]

theorem cRange_ok (c : OpAt P E D ε h n w a lc fr l) (t : TypeId) (x : Operand) (hx : ∀ u, x = .tmp u → u ∈ l) {q : QF} (hq : cRange E t x = some q) :
    QRes D ε n w (q lc fr h n) ((do pure (.value (← Instr.range t (a.eval x))) : Sem Next).run P w) := by
  unfold cRange at hq
  rw [ob_eq_some] at hq
  obtain ⟨i, hi, hq⟩ := hq
  obtain ⟨d, hd, he, hru⟩ := (c.env.tyOk hi).run_underlying
  rw [he] at hq
  have key : (d = .string ∧ q = qRangeStr (cOpd x)) ∨ (∃ k e, d = .map k e ∧ q = qRangeMap (cOpd x)) := by
    cases d with
    | string =>
      have hq' : some (qRangeStr (cOpd x)) = some q := hq
      injection hq' with hq'
      exact .inl ⟨rfl, hq'.symm⟩
    | map k e =>
      have hq' : some (qRangeMap (cOpd x)) = some q := hq
      injection hq' with hq'
      exact .inr ⟨k, e, rfl, hq'.symm⟩
    | _ => cases hq
  rcases key with ⟨rfl, rfl⟩ | ⟨k, e, rfl, rfl⟩
  · refine oq_elim (Φ := fun r => QRes D ε n w r _) trivial fun v hv => ?_
    obtain ⟨h1, _⟩ := c.gt hv hx
    refine onStr_elim (Φ := fun r => QRes D ε n w r _) trivial fun z hz => ?_
    subst hz
    refine newObj_res c (.stringIter ⟨z.toArray⟩ 0) fun ε' he _ => ⟨by simp [okv, Plus], ⟨rfl, by rw [he, Env.at_sft]⟩, ?_⟩
    subst he
    simp [Instr.range, hru, h1, g, Env.at]
  · refine oq_elim (Φ := fun r => QRes D ε n w r _) trivial fun v hv => ?_
    obtain ⟨h1, _⟩ := c.gt hv hx
    refine onMap_elim (Φ := fun r => QRes D ε n w r _) trivial (fun hz => ?_) fun id hz => ?_
    · subst hz
      refine newObj_res c (.mapIter none 0 #[] 0) fun ε' he _ => ⟨by simp [okv, Plus], ⟨⟨rfl, by rw [he, Env.at_sft]⟩, fun i hi => by cases hi⟩, ?_⟩
      subst he
      simp [Instr.range, hru, h1, g, Env.at]
    · subst hz
      refine oq_elim (Φ := fun r => QRes D ε n w r _) trivial fun y hy => ?_
      obtain ⟨h3, h4, _⟩ := mapAt_ok c.sim hy
      refine newObj_res c (.mapIter (some (ε.blk id)) y.2 #[] y.2) fun ε' he ha => ⟨by simp [okv, Plus], ⟨⟨by simp [(ha id h4).1], by rw [he, Env.at_sft]⟩, fun i hi => by injection hi with hi; subst hi; exact .inl h4⟩, ?_⟩
      subst he
      have hg := run_getObj P w h3 (by intro c T fz hh; cases hh)
      simp only [Instr.range, Sem.run_bind, hru, Result.andThen_ok, h1, g, hg, Sem.run_pure, run_newObj, Env.at, if_true, Nat.add_zero]

theorem okd_ok {ok : Bool} {v : AV} {b : Bool} {res : Result Next} (hv : okv D ε v) (hr : res = .ok (.value (if ok then .tuple #[g ε v, .bool b] else g ε v)) w) : QRes D ε n w (okd ok v b) res := by
  unfold okd
  cases ok with
  | true => exact .mkVal (by rw [hr]; simp [g]) (by simp only [okv]; intro x hx; simp at hx; rcases hx with rfl | rfl <;> simp [okv, hv])
  | false => exact .mkVal (by rw [hr]; simp) hv

theorem cAssert_ok (c : OpAt P E D ε h n w a lc fr l) (x : Operand) (xt t : TypeId) (ok : Bool) (hx : ∀ u, x = .tmp u → u ∈ l) {q : QF} (hq : cAssert E x t ok = some q) :
    QRes D ε n w (q lc fr h n) ((do pure (.value (← Instr.typeAssert (a.eval x) xt t ok)) : Sem Next).run P w) := by
  unfold cAssert at hq
  rw [ob_eq_some] at hq
  obtain ⟨i, hi, hq⟩ := hq
  rw [bi_eq] at hq
  split at hq
  · cases hq
  · rename_i hf
    injection hq with hq
    subst hq
    obtain ⟨d, hd, he, hru⟩ := (c.env.tyOk hi).run_underlying
    obtain ⟨info, hinfo, _, _, _, hzero, hri⟩ := (c.env.tyOk hi).run_typeInfo
    rw [he] at hf
    have hz : ∀ z, i.zero = some z → (zeroValue t).run P w = .ok (g ε z) w ∧ okv D ε z := by
      intro z hz
      rw [hzero, ob_eq_some] at hz
      obtain ⟨zv, h1, h2⟩ := hz
      obtain ⟨h3, h4⟩ := ofValue_g (ε := ε) (D := D) h2
      exact ⟨by simp [zeroValue, hri, h1, h3], h4⟩
    have hnot : ∀ ms, d ≠ .interface ms := fun ms hh => hf (by rw [hh]; rfl)
    refine oq_elim (Φ := fun r => QRes D ε n w r _) trivial fun v hv => ?_
    obtain ⟨h1, h2⟩ := c.gt hv hx
    have hfail : ∀ (res : Result Next), (ok = true → ∀ z, i.zero = some z → res = .ok (.value (.tuple #[g ε z, .bool false])) w) → QRes D ε n w (bi ok (oq i.zero fun z => .val (.tup [z, .bool false])) .fail) res := by
      intro res hres
      refine bi_elim (Φ := fun r => QRes D ε n w r _) (fun hok => ?_) fun _ => trivial
      refine oq_elim (Φ := fun r => QRes D ε n w r _) trivial fun z hzz => ?_
      obtain ⟨_, h4⟩ := hz z hzz
      exact .mkVal (by rw [hres hok z hzz]; simp [g]) (by simp only [okv]; intro x hx; simp at hx; rcases hx with rfl | rfl <;> simp [okv, h4])
    refine onIface_elim (Φ := fun r => QRes D ε n w r _) trivial (fun hn => ?_) fun u y hy => ?_
    · subst hn
      refine hfail _ fun hok z hzz => ?_
      obtain ⟨h3, _⟩ := hz z hzz
      simp only [Instr.typeAssert, Sem.run_bind, hru, Result.andThen_ok, h1, g]
      cases d <;> first | (exact absurd rfl (hnot _)) | simp [hok, h3]
    · subst hy
      simp only [okv] at h2
      refine bi_elim (Φ := fun r => QRes D ε n w r _) (fun hut => ?_) fun hut => ?_
      · rw [nbeq] at hut
        have hut' : u = t := by simpa using hut
        subst hut'
        refine okd_ok h2 ?_
        simp only [Instr.typeAssert, Sem.run_bind, hru, Result.andThen_ok, h1, g]
        cases d <;> first | (exact absurd rfl (hnot _)) | simp
      · rw [nbeq] at hut
        have hut' : u ≠ t := by simpa using hut
        refine hfail _ fun hok z hzz => ?_
        obtain ⟨h3, _⟩ := hz z hzz
        simp only [Instr.typeAssert, Sem.run_bind, hru, Result.andThen_ok, h1, g]
        cases d <;> first | (exact absurd rfl (hnot _)) | simp [hok, h3, hut']

theorem qExtract_ok (c : OpAt P E D ε h n w a lc fr l) (x : Operand) (k : Nat) (hx : ∀ u, x = .tmp u → u ∈ l) :
    QRes D ε n w (qExtract k (cOpd x) lc fr h n) ((do pure (.value (← Instr.extract (a.eval x) k)) : Sem Next).run P w) := by
  refine oq_elim (Φ := fun r => QRes D ε n w r _) trivial fun v hv => ?_
  obtain ⟨h1, h2⟩ := c.gt hv hx
  refine onTup_elim (Φ := fun r => QRes D ε n w r _) trivial fun vs hvs => ?_
  subst hvs
  refine oq_elim (Φ := fun r => QRes D ε n w r _) trivial fun u hu => ?_
  rw [lget_eq] at hu
  simp only [okv] at h2
  refine .mkVal ?_ (h2 u (List.mem_of_getElem? hu))
  simp [Instr.extract, h1, g, hu]

end ops
end Go.Proofs.YtbcnedhhebjhdaaGreatDoor.Fa

/-
  The quiet operations, against the model's: entries, lengths, maps.
-/
namespace Go.Proofs.YtbcnedhhebjhdaaGreatDoor.Fa

theorem stampOf_eq : ∀ seen : List Nat, stampOf seen = seen.getLast? := by
  intro seen
  induction seen with
  | nil => rfl
  | cons a s ih =>
    cases s with
    | nil => rfl
    | cons b s => show stampOf (b :: s) = _; rw [ih]; rfl
theorem entryOf_eq (ε : Env) (st : Nat) : ∀ es : List Ent, ((es.map (gEnt ε)).find? (·.born == st)) = (entryOf es st).map (gEnt ε) ∧ ∀ e, entryOf es st = some e → e ∈ es := by
  intro es
  induction es with
  | nil => exact ⟨rfl, fun e h => by cases h⟩
  | cons e es ih =>
    have hd : entryOf (e :: es) st = bi (Nat.beq e.2.2 st) (some e) (entryOf es st) := rfl
    rw [hd, bi_eq, nbeq]
    by_cases h : e.2.2 = st
    · simp [gEnt, h]
    · simp only [List.map_cons, List.find?_cons]
      rw [show ((gEnt ε e).born == st) = false from by simp [gEnt, h]]
      simp only [h, decide_false, Bool.false_eq_true, if_false]
      exact ⟨ih.1, fun x hx => List.mem_cons_of_mem _ (ih.2 x hx)⟩

section ops
variable {P : Program} {E : Env0} {D : Nat → Prop} {ε : Env} {h : Heap} {n : Nat} {w : World} {a : Act} {lc : Lc} {fr : Tr AV} {l : List Nat}

theorem qEntry_ok (c : OpAt P E D ε h n w a lc fr l) (x : Operand) (hx : ∀ u, x = .tmp u → u ∈ l) :
    QRes D ε n w (qEntry (cOpd x) lc fr h n) ((do pure (.value (← Instr.entry (a.eval x))) : Sem Next).run P w) := by
  refine oq_elim (Φ := fun r => QRes D ε n w r _) trivial fun v hv => ?_
  obtain ⟨h1, _⟩ := c.gt hv hx
  refine onPtr_elim (Φ := fun r => QRes D ε n w r _) trivial fun id o hp => ?_
  subst hp
  refine bi_elim (Φ := fun r => QRes D ε n w r _) (fun ho => ?_) fun _ => trivial
  rw [nbeq] at ho
  have ho' : o = 0 := by simpa using ho
  subst ho'
  refine oq_elim (Φ := fun r => QRes D ε n w r _) trivial fun b hb => ?_
  cases b <;> first | (exact trivial) | skip
  rename_i m since seen stepped
  cases m with
  | none => exact trivial
  | some m =>
    show QRes D ε n w (oq (mapAt h m) fun y => bi (Nat.beq y.2 stepped) (oq (stampOf seen) fun st => oq (entryOf y.1 st) fun e => .val (.tup [e.1, e.2.1])) .fail) _
    refine oq_elim (Φ := fun r => QRes D ε n w r _) trivial fun y hy => ?_
    refine bi_elim (Φ := fun r => QRes D ε n w r _) (fun hst => ?_) fun _ => trivial
    refine oq_elim (Φ := fun r => QRes D ε n w r _) trivial fun st hs => ?_
    refine oq_elim (Φ := fun r => QRes D ε n w r _) trivial fun e hent => ?_
    rw [nbeq] at hst
    have hst' : y.2 = stepped := by simpa using hst
    obtain ⟨ob, hob, ⟨rfl, hz⟩, hm⟩ := c.sim.obj id _ hb
    obtain ⟨h3, h4, h5⟩ := mapAt_ok c.sim hy
    obtain ⟨h6, h7⟩ := entryOf_eq ε st y.1
    have hok := h5 e (h7 e hent)
    refine .mkVal ?_ (by simp only [okv]; intro x hx; simp at hx; rcases hx with rfl | rfl <;> first | exact hok.1 | exact hok.2)
    have g1 := run_getObj P w hob (by intro c T fz hh; cases hh)
    have g2 := run_getObj P w h3 (by intro c T fz hh; cases hh)
    rw [hent] at h6
    rw [stampOf_eq] at hs
    have hback : seen.toArray.back? = some st := by simp [hs]
    have hneq : (y.2 != stepped) = false := by simp [hst']
    simp only [Instr.entry, h1, g, hz, Nat.zero_add, Sem.run_bind, g1, Result.andThen_ok, Option.map_some, hback, g2, hneq, Bool.false_eq_true, if_false, List.find?_toArray, h6]
    simp [gEnt]

theorem goInt_nat (k : Nat) : (Value.int .i64 (Int.ofNat k)) = goInt k := rfl

theorem cLen_ok (c : OpAt P E D ε h n w a lc fr l) (t ty : TypeId) (ts : Array TypeId) (x : Operand) (ht : ts[0]? = some t) (hx : ∀ u, x = .tmp u → u ∈ l) {q : QF} (hq : cLen E t x = some q) :
    QRes D ε n w (q lc fr h n) ((do pure (.value (← Builtin.len_ ts ty #[a.eval x])) : Sem Next).run P w) := by
  unfold cLen at hq
  rw [ob_eq_some] at hq
  obtain ⟨i, hi, hq⟩ := hq
  obtain ⟨d, hd, he, hru⟩ := (c.env.tyOk hi).run_underlying
  rw [he] at hq
  have key : (d = .string ∧ q = qLenStr (cOpd x)) ∨ (∃ e, d = .slice e ∧ q = qLenSl (cOpd x)) ∨ (∃ k e, d = .map k e ∧ q = qLenMap (cOpd x)) := by
    cases d with
    | string =>
      have hq' : some (qLenStr (cOpd x)) = some q := hq
      injection hq' with hq'
      exact .inl ⟨rfl, hq'.symm⟩
    | slice e =>
      have hq' : some (qLenSl (cOpd x)) = some q := hq
      injection hq' with hq'
      exact .inr (.inl ⟨e, rfl, hq'.symm⟩)
    | map k e =>
      have hq' : some (qLenMap (cOpd x)) = some q := hq
      injection hq' with hq'
      exact .inr (.inr ⟨k, e, rfl, hq'.symm⟩)
    | _ => cases hq
  rcases key with ⟨rfl, rfl⟩ | ⟨e, rfl, rfl⟩ | ⟨k, e, rfl, rfl⟩
  · refine oq_elim (Φ := fun r => QRes D ε n w r _) trivial fun v hv => ?_
    obtain ⟨h1, _⟩ := c.gt hv hx
    refine onStr_elim (Φ := fun r => QRes D ε n w r _) trivial fun z hz => ?_
    subst hz
    refine .mkVal ?_ (by simp [okv])
    have e1 : (⟨z.toArray⟩ : ByteArray).size = llen z := by rw [llen_eq]; rfl
    simp [Builtin.len_, ht, hru, h1, g, goInt, e1]
  · refine oq_elim (Φ := fun r => QRes D ε n w r _) trivial fun v hv => ?_
    obtain ⟨h1, _⟩ := c.gt hv hx
    refine onSlc_elim (Φ := fun r => QRes D ε n w r _) trivial (fun hz => ?_) fun id off len cp hz => ?_
    · subst hz
      refine .mkVal ?_ (by simp [okv])
      simp [Builtin.len_, ht, hru, h1, g, goInt]
    · subst hz
      refine .mkVal ?_ (by simp [okv])
      simp [Builtin.len_, ht, hru, h1, g, goInt]
  · refine oq_elim (Φ := fun r => QRes D ε n w r _) trivial fun v hv => ?_
    obtain ⟨h1, _⟩ := c.gt hv hx
    refine onMap_elim (Φ := fun r => QRes D ε n w r _) trivial (fun hz => ?_) fun id hz => ?_
    · subst hz
      refine .mkVal ?_ (by simp [okv])
      simp [Builtin.len_, ht, hru, h1, g, goInt]
    · subst hz
      refine oq_elim (Φ := fun r => QRes D ε n w r _) trivial fun y hy => ?_
      obtain ⟨h3, h4, h5⟩ := mapAt_ok c.sim hy
      have g2 := run_getObj P w h3 (by intro c T fz hh; cases hh)
      refine .mkVal ?_ (by simp [okv])
      simp [Builtin.len_, ht, hru, h1, g, goInt, g2]

theorem cCap_ok (c : OpAt P E D ε h n w a lc fr l) (t ty : TypeId) (ts : Array TypeId) (x : Operand) (ht : ts[0]? = some t) (hx : ∀ u, x = .tmp u → u ∈ l) {q : QF} (hq : cCap E t x = some q) :
    QRes D ε n w (q lc fr h n) ((do pure (.value (← Builtin.cap_ ts ty #[a.eval x])) : Sem Next).run P w) := by
  unfold cCap at hq
  rw [ob_eq_some] at hq
  obtain ⟨i, hi, hq⟩ := hq
  obtain ⟨d, hd, he, hru⟩ := (c.env.tyOk hi).run_underlying
  rw [he] at hq
  obtain ⟨e, rfl, hq2⟩ := onSliceD_some hq
  injection hq2 with hq2
  subst hq2
  refine oq_elim (Φ := fun r => QRes D ε n w r _) trivial fun v hv => ?_
  obtain ⟨h1, _⟩ := c.gt hv hx
  refine onSlc_elim (Φ := fun r => QRes D ε n w r _) trivial (fun hz => ?_) fun id off len cp hz => ?_
  · subst hz
    refine .mkVal ?_ (by simp [okv])
    simp [Builtin.cap_, ht, hru, h1, g, goInt]
  · subst hz
    cases cp with
    | exact m =>
      refine QRes.mkVal (v := .int .i64 (.ofNat m)) ?_ (by simp [okv])
      simp [Builtin.cap_, ht, hru, h1, g, goInt, gCap]
    | grown s => exact trivial

theorem qMax_ok (c : OpAt P E D ε h n w a lc fr l) (ts : Array TypeId) (ty : TypeId) (x y : Operand) (hx : ∀ u, x = .tmp u → u ∈ l) (hy : ∀ u, y = .tmp u → u ∈ l) :
    QRes D ε n w (qBin (int2 pickMax none) (cOpd x) (cOpd y) lc fr h n) ((do pure (.value (← Builtin.max_ ts ty #[a.eval x, a.eval y])) : Sem Next).run P w) := by
  refine qBin_ok c _ x y hx hy fun u v r h1 h2 h3 h4 hr => ?_
  unfold int2 at hr
  cases u <;> first | (cases hr; done) | skip
  cases v <;> first | (cases hr; done) | skip
  rename_i k1 a1 k2 b1
  have hr' : bi (kindEq k1 k2) (pickMax k1 a1 b1) none = some r := hr
  rw [bi_eq] at hr'
  split at hr'
  · injection hr' with hr'
    subst hr'
    refine ⟨?_, by simp [okv]⟩
    rw [h1, h2]
    simp only [g, Builtin.max_, List.foldlM, Builtin.max2, Sem.run_bind, Sem.run_pure, Result.andThen_ok, bi_eq, intLe_eq]
    by_cases hle : b1 ≤ a1
    · simp [hle, Int.not_lt.2 hle]
    · simp [hle, Int.not_le.1 hle]
  · cases hr'
theorem qMin_ok (c : OpAt P E D ε h n w a lc fr l) (ts : Array TypeId) (ty : TypeId) (x y : Operand) (hx : ∀ u, x = .tmp u → u ∈ l) (hy : ∀ u, y = .tmp u → u ∈ l) :
    QRes D ε n w (qBin (int2 pickMin none) (cOpd x) (cOpd y) lc fr h n) ((do pure (.value (← Builtin.min_ ts ty #[a.eval x, a.eval y])) : Sem Next).run P w) := by
  refine qBin_ok c _ x y hx hy fun u v r h1 h2 h3 h4 hr => ?_
  unfold int2 at hr
  cases u <;> first | (cases hr; done) | skip
  cases v <;> first | (cases hr; done) | skip
  rename_i k1 a1 k2 b1
  have hr' : bi (kindEq k1 k2) (pickMin k1 a1 b1) none = some r := hr
  rw [bi_eq] at hr'
  split at hr'
  · injection hr' with hr'
    subst hr'
    refine ⟨?_, by simp [okv]⟩
    rw [h1, h2]
    simp only [g, Builtin.min_, List.foldlM, Builtin.min2, Sem.run_bind, Sem.run_pure, Result.andThen_ok, bi_eq, intLe_eq]
    by_cases hle : a1 ≤ b1
    · simp [hle, Int.not_lt.2 hle]
    · simp [hle, Int.not_le.1 hle]
  · cases hr'

/-! ### Keys -/
theorem keyFields_ok {N : Nat} {cs : List AV} {emp : Bool} (hE : EnvOk P E) (ok : TypeId → AV → Bool)
    (ih : ∀ t v, okv D ε v → ok t v = true → (Instr.checkKey emp N t (g ε v)).run P w = .ok () w) (hcs : CellsOk D ε cs) :
    ∀ (fs : List Field), keyFields E ok cs (fs.map fun f => (f.type, f.offset, f.name == "_")) = true →
    (do
      for f in fs do
        if f.name ≠ "_" then Instr.checkKey emp N f.type (← part f.type (cs.map (g ε)).toArray f.offset) : Sem Unit).run P w = .ok () w := by
  intro fs
  induction fs with
  | nil => intro _; simp
  | cons f fs ihf =>
    intro hb
    have hb' : bi (f.name == "_") (keyFields E ok cs (fs.map fun f => (f.type, f.offset, f.name == "_"))) (Option.rec (motive := fun _ => Bool) false (fun a => bi (ok f.type a) (keyFields E ok cs (fs.map fun f => (f.type, f.offset, f.name == "_"))) false) (partA E f.type cs f.offset)) = true := hb
    rw [bi_eq] at hb'
    split at hb'
    · rename_i hn
      have hn' : f.name = "_" := by simpa using hn
      have := ihf hb'
      simp only [List.forIn_cons, hn', ne_eq, not_true_eq_false, if_false, pure_bind] at this ⊢
      exact this
    · rename_i hn
      have hn' : ¬ f.name = "_" := by simpa using hn
      cases hp : partA E f.type cs f.offset with
      | none => rw [hp] at hb'; cases hb'
      | some v =>
        rw [hp] at hb'
        have hb2 : bi (ok f.type v) (keyFields E ok cs (fs.map fun f => (f.type, f.offset, f.name == "_"))) false = true := hb'
        rw [bi_eq] at hb2
        split at hb2
        · rename_i hok
          obtain ⟨p1, p2⟩ := part_ok (ε := ε) (D := D) hE hp hcs w
          have hrun := ih _ _ p2 hok
          have := ihf hb2
          simp only [List.forIn_cons, Sem.run_bind, ne_eq, hn', not_false_eq_true, if_true, p1, hrun, Result.andThen_ok, Sem.run_pure] at this ⊢
          exact this
        · cases hb2

theorem keyOk_ok (hE : EnvOk P E) (emp : Bool) : ∀ (d N : Nat), d ≤ N → ∀ t v, okv D ε v → keyOk E d t v = true → (Instr.checkKey emp N t (g ε v)).run P w = .ok () w := by
  intro d
  induction d with
  | zero => intro N _ t v _ hb; cases hb
  | succ d ih =>
    intro N hN t v hv hb
    obtain ⟨N, rfl⟩ : ∃ M, N = M + 1 := ⟨N - 1, by omega⟩
    have hb' : Option.rec (motive := fun _ => Bool) false (fun i => keyDesc E (keyOk E d) i v) (E.type t) = true := hb
    cases hi : E.type t with
    | none => rw [hi] at hb'; cases hb'
    | some i =>
      rw [hi] at hb'
      have hb2 : keyDesc E (keyOk E d) i v = true := hb'
      have hty := hE.tyOk hi
      obtain ⟨dd, hdd, he, hru⟩ := hty.run_underlying
      unfold keyDesc at hb2
      cases hdesc : i.desc with
      | bool =>
        rw [hdesc] at hb2 he
        have := ofDesc_bool he.symm
        subst this
        simp [Instr.checkKey, hru]
      | int k =>
        rw [hdesc] at hb2 he
        have := ofDesc_int he.symm
        subst this
        simp [Instr.checkKey, hru]
      | string =>
        rw [hdesc] at hb2 he
        have := ofDesc_string he.symm
        subst this
        simp [Instr.checkKey, hru]
      | struct l =>
        rw [hdesc] at hb2 he
        obtain ⟨fs, rfl, rfl⟩ := ofDesc_struct he.symm
        have hb3 : bi i.stood false (onAgg false (fun cs => keyFields E (keyOk E d) cs (fs.toList.map fun f => (f.type, f.offset, f.name == "_"))) v) = true := hb2
        rw [bi_eq] at hb3
        split at hb3
        · cases hb3
        · cases v <;> first | (cases hb3; done) | skip
          rename_i cs
          simp only [okv] at hv
          have := keyFields_ok (P := P) (w := w) (N := N) (emp := emp) hE (fun t v => keyOk E d t v) (fun t v hv hk => ih N (by omega) t v hv hk) hv fs.toList hb3
          simp only [Instr.checkKey, Sem.run_bind, hru, Result.andThen_ok, g, ← Array.forIn_toList]
          simp only [Sem.run_bind] at this
          exact this
      | pointer e => rw [hdesc] at hb2; cases hb2
      | slice e => rw [hdesc] at hb2; cases hb2
      | array m e => rw [hdesc] at hb2; cases hb2
      | map k e => rw [hdesc] at hb2; cases hb2
      | func => rw [hdesc] at hb2; cases hb2
      | interface => rw [hdesc] at hb2; cases hb2
      | other => rw [hdesc] at hb2; cases hb2

/-! ### Finding -/
theorem findA_ok (hE : EnvOk P E) {kt : TypeId} {k : AV} (hk : okv D ε k) : ∀ (es : List Ent) (i : Nat) (r : Option (Nat × Ent)), (∀ e ∈ es, entOk D ε e) → findA E kt k es i = some r →
    (Instr.findAsking kt (g ε k) (es.map (gEnt ε)) i).run P w = .ok (r.map fun e => (e.1, g ε e.2.2.1)) w ∧ (∀ e, r = some e → ∃ j, e.1 = i + j ∧ es[j]? = some e.2) ∧
    (∀ d res, Instr.findNow d (g ε k) (es.map (gEnt ε)) i = some res → (underlying kt).run P w = .ok d w → res = r.map fun e => (e.1, g ε e.2.2.1)) := by
  have hs : Sim D ε (Tr.nil : Heap).find w := ⟨fun _ _ hb => (by cases hb), fun _ _ hb => (by cases hb), fun _ _ _ _ hb => (by cases hb)⟩
  intro es
  induction es with
  | nil =>
    intro i r _ hr
    injection hr with hr
    subst hr
    refine ⟨by simp [Instr.findAsking], fun e he => (by cases he), fun d res hres _ => ?_⟩
    simp [Instr.findNow] at hres
    exact hres.symm
  | cons e es ih =>
    intro i r hes hr
    have hr' : ob (eqA E .nil 9 kt k e.1) (fun b => bi b (some (some (i, e))) (findA E kt k es (Nat.succ i))) = some r := hr
    rw [ob_eq_some] at hr'
    obtain ⟨b, hb, hr'⟩ := hr'
    have heq := eqA_ok hE hs 9 Op.maxDepth (by simp [Op.maxDepth]) kt k e.1 b hk (hes e List.mem_cons_self).1 hb
    have hnow : ∀ d b', Instr.sameNow d (g ε k) (g ε e.1) = some b' → (underlying kt).run P w = .ok d w → b' = b := by
      intro d b' hsame hd
      obtain ⟨N, hrun⟩ : ∃ N, (Op.equalIn (N + 1) kt (g ε k) (g ε e.1)).run P w = .ok b w := ⟨8, eqA_ok hE hs 9 9 (Nat.le_refl _) kt k e.1 b hk (hes e List.mem_cons_self).1 hb⟩
      unfold Instr.sameNow at hsame
      split at hsame
      · rename_i k1 a1 k2 b1 h1 h2
        split at hsame
        · rename_i hkk
          injection hsame with hsame
          rw [h1, h2] at hrun
          simp only [Op.equalIn, Sem.run_bind, hd, Result.andThen_ok, hkk, if_true, Sem.run_pure] at hrun
          injection hrun with hrun
          rw [← hsame, hrun]
        · cases hsame
      · rename_i a1 b1 h1 h2
        injection hsame with hsame
        rw [h1, h2] at hrun
        simp only [Op.equalIn, Sem.run_bind, hd, Result.andThen_ok, Sem.run_pure] at hrun
        injection hrun with hrun
        rw [← hsame, hrun]
      · rename_i a1 b1 h1 h2
        injection hsame with hsame
        rw [h1, h2] at hrun
        simp only [Op.equalIn, Sem.run_bind, hd, Result.andThen_ok, Sem.run_pure] at hrun
        injection hrun with hrun
        rw [← hsame, hrun]
      · cases hsame
    have heq' : (Op.equal kt (g ε k) (g ε e.1)).run P w = .ok b w := heq
    cases b with
    | true =>
      have hr2 : some (some (i, e)) = some r := hr'
      injection hr2 with hr2
      subst hr2
      refine ⟨by simp [Instr.findAsking, gEnt, heq'], fun e' he' => ⟨0, by injection he' with he'; subst he'; exact ⟨rfl, rfl⟩⟩, fun d res hres hd => ?_⟩
      simp only [List.map_cons, Instr.findNow] at hres
      split at hres
      · injection hres with hres
        exact hres.symm
      · rename_i hsame
        have := hnow d _ hsame hd
        cases this
      · cases hres
    | false =>
      have hr2 : findA E kt k es (Nat.succ i) = some r := hr'
      obtain ⟨i1, i2, i3⟩ := ih (i + 1) r (fun x hx => hes x (List.mem_cons_of_mem _ hx)) hr2
      refine ⟨by simp only [List.map_cons, Instr.findAsking, Sem.run_bind]; rw [show (gEnt ε e).key = g ε e.1 from rfl, heq']; simp only [Result.andThen_ok, Bool.false_eq_true, if_false]; exact i1, fun e' he' => ?_, fun d res hres hd => ?_⟩
      · obtain ⟨j, h1, h2⟩ := i2 e' he'
        exact ⟨j + 1, by omega, by simpa using h2⟩
      · simp only [List.map_cons, Instr.findNow] at hres
        split at hres
        · rename_i hsame
          have := hnow d _ hsame hd
          cases this
        · exact i3 d res hres hd
        · cases hres

theorem findKey_ok (hE : EnvOk P E) {kt : TypeId} {k : AV} (hk : okv D ε k) {es : List Ent} {r : Option (Nat × Ent)} (hes : ∀ e ∈ es, entOk D ε e) (hr : findA E kt k es 0 = some r) {d : TypeDesc} (hd : (underlying kt).run P w = .ok d w) :
    (Instr.findKey kt (g ε k) (es.map (gEnt ε))).run P w = .ok (r.map fun e => (e.1, g ε e.2.2.1)) w ∧ (∀ e, r = some e → es[e.1]? = some e.2) := by
  obtain ⟨h1, h2, h3⟩ := findA_ok (P := P) (w := w) hE hk es 0 r hes hr
  refine ⟨?_, fun e he => ?_⟩
  · simp only [Instr.findKey, Sem.run_bind, hd, Result.andThen_ok]
    cases hn : Instr.findNow d (g ε k) (es.map (gEnt ε)) 0 with
    | none => exact h1
    | some res => rw [h3 d res hn hd]; rfl
  · obtain ⟨j, h4, h5⟩ := h2 e he
    rw [h4, Nat.zero_add]
    exact h5

theorem cLookup_ok (c : OpAt P E D ε h n w a lc fr l) (t : TypeId) (x y : Operand) (ok : Bool) (hx : ∀ u, x = .tmp u → u ∈ l) (hy : ∀ u, y = .tmp u → u ∈ l) {q : QF} (hq : cLookup E t x y ok = some q) :
    QRes D ε n w (q lc fr h n) ((do pure (.value (← Instr.lookup t (a.eval x) (a.eval y) ok)) : Sem Next).run P w) := by
  unfold cLookup at hq
  rw [ob_eq_some] at hq
  obtain ⟨i, hi, hq⟩ := hq
  obtain ⟨d, hd, he, hru⟩ := (c.env.tyOk hi).run_underlying
  rw [he] at hq
  obtain ⟨kt, et, rfl, hq2⟩ := onMapD_some hq
  rw [ob_eq_some] at hq2
  obtain ⟨j, hj, hq2⟩ := hq2
  rw [ob_eq_some] at hq2
  obtain ⟨z, hz, hq2⟩ := hq2
  injection hq2 with hq2
  subst hq2
  obtain ⟨info, hinfo, _, _, _, hzero, hri⟩ := (c.env.tyOk hj).run_typeInfo
  rw [hzero, ob_eq_some] at hz
  obtain ⟨zv, hz1, hz2⟩ := hz
  obtain ⟨hz3, hz4⟩ := ofValue_g (ε := ε) (D := D) hz2
  have hzrun : (zeroValue et).run P w = .ok (g ε z) w := by simp [zeroValue, hri, hz1, hz3]
  refine oq_elim (Φ := fun r => QRes D ε n w r _) trivial fun m hm => ?_
  obtain ⟨h1, _⟩ := c.gt hm hx
  refine oq_elim (Φ := fun r => QRes D ε n w r _) trivial fun k hk => ?_
  obtain ⟨h2, hkok⟩ := c.gt hk hy
  refine oq_elim (Φ := fun r => QRes D ε n w r _) trivial fun es hes => ?_
  have hent : (∀ e ∈ es, entOk D ε e) ∧ ((m = .nilMap ∧ es = []) ∨ ∃ id clk, m = .map id ∧ (getObj (ε.blk id)).run P w = .ok (.map (es.map (gEnt ε)).toArray clk) w) := by
    unfold esOf at hes
    cases m with
    | nilMap =>
      injection hes with hes
      subst hes
      exact ⟨fun e he => (by cases he), .inl ⟨rfl, rfl⟩⟩
    | map id =>
      have hes' : ob (mapAt h id) (fun x => some x.1) = some es := hes
      rw [ob_eq_some] at hes'
      obtain ⟨y, hy2, hes'⟩ := hes'
      injection hes' with hes'
      subst hes'
      obtain ⟨h3, h4, h5⟩ := mapAt_ok c.sim hy2
      have g2 := run_getObj P w h3 (by intro c T fz hh; cases hh)
      exact ⟨h5, .inr ⟨id, y.2, rfl, g2⟩⟩
    | _ => cases hes
  refine bi_elim (Φ := fun r => QRes D ε n w r _) (fun hko => ?_) fun _ => trivial
  have hchk := fun emp => keyOk_ok (P := P) (w := w) c.env emp 9 10000 (by omega) kt k hkok hko
  have hkt : ∃ d, (underlying kt).run P w = .ok d w := by
    have hko' : Option.rec (motive := fun _ => Bool) false (fun i => keyDesc E (keyOk E 8) i k) (E.type kt) = true := hko
    cases hi2 : E.type kt with
    | none => rw [hi2] at hko'; cases hko'
    | some i2 =>
      obtain ⟨d2, _, _, hr2⟩ := (c.env.tyOk hi2).run_underlying
      exact ⟨d2, hr2 w⟩
  obtain ⟨d2, hd2⟩ := hkt
  refine oq_elim (Φ := fun r => QRes D ε n w r _) trivial fun r hr => ?_
  obtain ⟨f1, f2⟩ := findKey_ok (P := P) (w := w) c.env hkok hent.1 hr hd2
  have hrun : ∀ (zz : Value), (∀ r', r = some r' → zz = g ε r'.2.2.1) → (r = none → zz = g ε z) → (Instr.lookup t (a.eval x) (a.eval y) ok).run P w = .ok (if ok then .tuple #[zz, .bool r.isSome] else zz) w := by
    intro zz hz5 hz6
    rcases hent.2 with ⟨rfl, rfl⟩ | ⟨id, clk, rfl, hg⟩
    · simp only [Instr.lookup, Sem.run_bind, hru, Result.andThen_ok, h1, h2, g, hchk, Sem.run_pure]
      have f3 : (Instr.findKey kt (g ε k) (#[] : Array MapEntry).toList).run P w = _ := f1
      rw [f3]
      cases r with
      | none => rw [hz6 rfl]; simp only [Option.map_none, Result.andThen_ok, Sem.run_bind, hzrun, Sem.run_pure]; rfl
      | some e => rw [hz5 e rfl]; simp only [Option.map_some, Result.andThen_ok]; rfl
    · simp only [Instr.lookup, Sem.run_bind, hru, Result.andThen_ok, h1, h2, g, hchk, Sem.run_pure, hg]
      have f3 : (Instr.findKey kt (g ε k) (es.map (gEnt ε)).toArray.toList).run P w = _ := f1
      rw [f3]
      cases r with
      | none => rw [hz6 rfl]; simp only [Option.map_none, Result.andThen_ok, Sem.run_bind, hzrun, Sem.run_pure]; rfl
      | some e => rw [hz5 e rfl]; simp only [Option.map_some, Result.andThen_ok]; rfl
  cases r with
  | none =>
    refine okd_ok hz4 ?_
    rw [Sem.run_bind, hrun (g ε z) (fun _ h => by cases h) (fun _ => rfl)]
    rfl
  | some e =>
    refine okd_ok (hent.1 e.2 (List.mem_of_getElem? (f2 e rfl))).2 ?_
    rw [Sem.run_bind, hrun (g ε e.2.2.1) (fun r' h => by injection h with h; rw [h]) (fun h => by cases h)]
    rfl

end ops
end Go.Proofs.YtbcnedhhebjhdaaGreatDoor.Fa

/-
  The quiet operations, all of them, against the model's.
-/
namespace Go.Proofs.YtbcnedhhebjhdaaGreatDoor.Fa

theorem quietK_some {q : QM} {f : QF} (h : quietK q = .quiet f) : q = some f := by
  cases q with
  | none => cases h
  | some q => injection h with h; rw [h]
theorem loudK_quiet {q : LM} {f : QF} (h : loudK q = .quiet f) : False := by cases q <;> cases h

theorem one_some {α : Type} {k : Operand → Option α} {as : List Operand} {r : α} (h : one none k as = some r) : ∃ x, as = [x] ∧ k x = some r := by
  match as, h with
  | [x], h => exact ⟨x, rfl, h⟩
theorem two_some {α : Type} {k : Operand → Operand → Option α} {as : List Operand} {r : α} (h : two none k as = some r) : ∃ x y, as = [x, y] ∧ k x y = some r := by
  match as, h with
  | [x, y], h => exact ⟨x, y, rfl, h⟩

section ops
variable {P : Program} {E : Env0} {D : Nat → Prop} {ε : Env} {h : Heap} {n : Nat} {w : World} {a : Act} {lc : Lc} {fr : Tr AV} {l : List Nat}

theorem run_builtin (P : Program) (w : World) (ρ : Operand → Value) (o : Oper) (cl : Call) (b : Builtin) (ho : o.op = .call cl) (hb : cl.callee = .builtin b) :
    (execOp ρ o).run P w = (builtin b cl.argTypes o.type (cl.args.map fun | .const _ => true | _ => false) (cl.args.map ρ)).run P w := by
  simp only [execOp, ho, resolve, hb]
  rfl

theorem quietCall_ok (c : OpAt P E D ε h n w a lc fr l) (o : Oper) (cl : Call) (ho : o.op = .call cl) (hl : ∀ t ∈ rCall cl, t ∈ l) {q : QF} (hq : cCallK E cl = .quiet q) : QRes D ε n w (q lc fr h n) ((execOp a.eval o).run P w) := by
  unfold cCallK at hq
  unfold cCallee at hq
  split at hq
  · cases hq
  · rename_i b hb
    have hargs : ∀ x ∈ cl.args.toList, ∀ u, x = .tmp u → u ∈ l := by
      intro x hx u hu
      refine hl u ?_
      unfold rCall
      rw [hb]
      exact (mem_rs cl.args.toList []).1 x hx u hu
    rw [run_builtin P w a.eval o cl b ho hb]
    have hq : cBuiltinK E b cl.argTypes.toList cl.args.toList = .quiet q := hq
    unfold cBuiltinK at hq
    split at hq
    · exact (loudK_quiet hq).elim
    · exact (loudK_quiet hq).elim
    · exact (loudK_quiet hq).elim
    · exact (loudK_quiet hq).elim
    · cases hq
    · obtain ⟨x, hx, hq2⟩ := one_some (quietK_some hq)
      rw [ob_eq_some] at hq2
      obtain ⟨t, ht, hq2⟩ := hq2
      rw [lget_eq, Array.getElem?_toList] at ht
      have hx1 : cl.args.map a.eval = #[a.eval x] := by apply Array.ext'; simp [hx]
      rw [hx1]
      exact cLen_ok c t o.type cl.argTypes x ht (hargs x (by rw [hx]; exact List.mem_cons_self)) hq2
    · obtain ⟨x, hx, hq2⟩ := one_some (quietK_some hq)
      rw [ob_eq_some] at hq2
      obtain ⟨t, ht, hq2⟩ := hq2
      rw [lget_eq, Array.getElem?_toList] at ht
      have hx1 : cl.args.map a.eval = #[a.eval x] := by apply Array.ext'; simp [hx]
      rw [hx1]
      exact cCap_ok c t o.type cl.argTypes x ht (hargs x (by rw [hx]; exact List.mem_cons_self)) hq2
    · obtain ⟨x, y, hx, hq2⟩ := two_some (quietK_some hq)
      injection hq2 with hq2
      subst hq2
      have hx1 : cl.args.map a.eval = #[a.eval x, a.eval y] := by apply Array.ext'; simp [hx]
      rw [hx1]
      exact qMax_ok c cl.argTypes o.type x y (hargs x (by rw [hx]; simp)) (hargs y (by rw [hx]; simp))
    · obtain ⟨x, y, hx, hq2⟩ := two_some (quietK_some hq)
      injection hq2 with hq2
      subst hq2
      have hx1 : cl.args.map a.eval = #[a.eval x, a.eval y] := by apply Array.ext'; simp [hx]
      rw [hx1]
      exact qMin_ok c cl.argTypes o.type x y (hargs x (by rw [hx]; simp)) (hargs y (by rw [hx]; simp))
    · cases hq
  · cases hq

theorem in_r1 {x : Operand} {m l : List Nat} (hl : ∀ t ∈ r1 x m, t ∈ l) : (∀ u, x = .tmp u → u ∈ l) ∧ ∀ t ∈ m, t ∈ l := ⟨fun u hu => hl u ((mem_r1 x m).1 u hu), fun t ht => hl t ((mem_r1 x m).2 t ht)⟩
theorem in_rs {xs : List Operand} {m l : List Nat} (hl : ∀ t ∈ rs xs m, t ∈ l) : (∀ x ∈ xs, ∀ u, x = .tmp u → u ∈ l) ∧ ∀ t ∈ m, t ∈ l := ⟨fun x hx u hu => hl u ((mem_rs xs m).1 x hx u hu), fun t ht => hl t ((mem_rs xs m).2 t ht)⟩
theorem in_rps {xs : List (Nat × Operand)} {m l : List Nat} (hl : ∀ t ∈ rps xs m, t ∈ l) : (∀ x ∈ xs, ∀ u, x.2 = .tmp u → u ∈ l) ∧ ∀ t ∈ m, t ∈ l := ⟨fun x hx u hu => hl u ((mem_rps xs m).1 x hx u hu), fun t ht => hl t ((mem_rps xs m).2 t ht)⟩
theorem in_ro {x : Option Operand} {m l : List Nat} (hl : ∀ t ∈ ro x m, t ∈ l) : (∀ y, x = some y → ∀ u, y = .tmp u → u ∈ l) ∧ ∀ t ∈ m, t ∈ l := ⟨fun y hy u hu => hl u ((mem_ro x m).1 y hy u hu), fun t ht => hl t ((mem_ro x m).2 t ht)⟩

theorem move_ok (c : OpAt P E D ε h n w a lc fr l) (o : Oper) (x : Operand) (hx : ∀ u, x = .tmp u → u ∈ l) (he : (execOp a.eval o).run P w = .ok (.value (a.eval x)) w) {q : QF} (hq : cMove x = .quiet q) : QRes D ε n w (q lc fr h n) ((execOp a.eval o).run P w) := by
  rw [he]
  cases x with
  | tmp t => cases hq
  | const v => injection hq with hq; subst hq; exact qMove_ok c (.const v) hx
  | global g => injection hq with hq; subst hq; exact qMove_ok c (.global g) hx
  | func f => injection hq with hq; subst hq; exact qMove_ok c (.func f) hx

theorem quiet_ok (c : OpAt P E D ε h n w a lc fr l) (o : Oper) (hl : ∀ t ∈ opReads o.op, t ∈ l) {q : QF} (hq : cKind E o.op = .quiet q) : QRes D ε n w (q lc fr h n) ((execOp a.eval o).run P w) := by
  cases ho : o.op with
  | move x =>
    rw [ho] at hq hl
    exact move_ok c o x (in_r1 hl).1 (by simp [execOp, ho]) hq
  | assign x =>
    rw [ho] at hq hl
    exact move_ok c o x (in_r1 hl).1 (by simp [execOp, ho]) hq
  | pick x y z =>
    rw [ho] at hq hl
    injection hq with hq
    subst hq
    obtain ⟨h1, hl⟩ := in_r1 hl
    obtain ⟨h2, hl⟩ := in_r1 hl
    obtain ⟨h3, _⟩ := in_r1 hl
    simp only [execOp, ho]
    exact qPick_ok c x y z h1 h2 h3
  | alloc e =>
    rw [ho] at hq
    have hq' : quietK (cAlloc E e) = .quiet q := hq
    have hq2 := quietK_some hq'
    unfold cAlloc at hq2
    rw [ob_eq_some] at hq2
    obtain ⟨z, hz, hq2⟩ := hq2
    injection hq2 with hq2
    subst hq2
    simp only [execOp, ho]
    exact qAlloc_ok c e hz
  | box e x =>
    rw [ho] at hq hl
    injection hq with hq
    subst hq
    simp only [execOp, ho]
    exact qBox_ok c e x (in_r1 hl).1
  | build t ps =>
    rw [ho] at hq hl
    simp only [execOp, ho]
    exact qBuild_ok c t ps (in_rps hl).1 (quietK_some (q := cBuild E t ps.toList) hq)
  | buildSlice t m ps =>
    rw [ho] at hq hl
    simp only [execOp, ho]
    exact qBuildSlice_ok c t m ps (in_rps hl).1 (quietK_some (q := cBuildSlice E t m ps.toList) hq)
  | insert t m k v => rw [ho] at hq; exact (loudK_quiet (q := cMapPut E t m k v) hq).elim
  | load t x =>
    rw [ho] at hq hl
    simp only [execOp, ho]
    exact qLoad_ok c t x (in_r1 hl).1 (quietK_some (q := cLoad E t x) hq)
  | store t x y => rw [ho] at hq; exact (loudK_quiet (q := cStore E t x y) hq).elim
  | ready k => rw [ho] at hq; cases hq
  | waits k => rw [ho] at hq; cases hq
  | nilCheck x =>
    rw [ho] at hq hl
    injection hq with hq
    subst hq
    exact qNilCheck_ok c x (in_r1 hl).1 o ho
  | binOp op t x y yt =>
    rw [ho] at hq hl
    obtain ⟨h1, hl⟩ := in_r1 hl
    obtain ⟨h2, _⟩ := in_r1 hl
    simp only [execOp, ho]
    exact cBin_ok c op t x y h1 h2 (quietK_some (q := cBin E op t x y) hq)
  | unOp op t x =>
    rw [ho] at hq hl
    simp only [execOp, ho]
    exact cUn_ok c op x (in_r1 hl).1 (quietK_some (q := cUn op x) hq)
  | convert s d x =>
    rw [ho] at hq hl
    simp only [execOp, ho]
    exact cConv_ok c s d x (in_r1 hl).1 (quietK_some (q := cConv E s d x) hq)
  | sliceToArrayPointer t x => rw [ho] at hq; cases hq
  | makeInterface t x =>
    rw [ho] at hq hl
    simp only [execOp, ho]
    exact cIface_ok c t x (in_r1 hl).1 (quietK_some (q := cIface E t x) hq)
  | makeFunc f p r =>
    rw [ho] at hq hl
    obtain ⟨h1, hl⟩ := in_rs hl
    obtain ⟨h2, _⟩ := in_rs hl
    simp only [execOp, ho]
    exact cFunc_ok c f p r h1 h2 (quietK_some (q := cFunc f p.toList r.toList) hq)
  | makeMap t r =>
    rw [ho] at hq hl
    simp only [execOp, ho]
    exact cMakeMap_ok c t r (in_ro hl).1 (quietK_some (q := cMakeMap E t r) hq)
  | makeChan t x => rw [ho] at hq; cases hq
  | makeSlice t x y =>
    rw [ho] at hq hl
    obtain ⟨h1, hl⟩ := in_r1 hl
    obtain ⟨h2, _⟩ := in_r1 hl
    simp only [execOp, ho]
    exact cMakeSlice_ok c t x y h1 h2 (quietK_some (q := cMakeSlice E t x y) hq)
  | slice t x lo hi mx =>
    rw [ho] at hq hl
    obtain ⟨h1, hl⟩ := in_r1 hl
    obtain ⟨h2, hl⟩ := in_ro hl
    obtain ⟨h3, hl⟩ := in_ro hl
    obtain ⟨h4, _⟩ := in_ro hl
    simp only [execOp, ho]
    exact cSlice_ok c t x lo hi mx h1 h2 h3 h4 (quietK_some (q := cSlice E t x lo hi mx) hq)
  | fieldAddr t x f =>
    rw [ho] at hq hl
    simp only [execOp, ho]
    exact qFieldAddr_ok c t x f (in_r1 hl).1 (quietK_some (q := cFieldAddr E t x f) hq)
  | field t x f =>
    rw [ho] at hq hl
    simp only [execOp, ho]
    exact qField_ok c t x f (in_r1 hl).1 (quietK_some (q := cField E t x f) hq)
  | indexAddr t x y =>
    rw [ho] at hq hl
    obtain ⟨h1, hl⟩ := in_r1 hl
    obtain ⟨h2, _⟩ := in_r1 hl
    simp only [execOp, ho]
    exact qIndexAddr_ok c t x y h1 h2 (quietK_some (q := cIndexAddr E t x y) hq)
  | index t x y =>
    rw [ho] at hq hl
    obtain ⟨h1, hl⟩ := in_r1 hl
    obtain ⟨h2, _⟩ := in_r1 hl
    simp only [execOp, ho]
    exact cIndex_ok c t x y h1 h2 (quietK_some (q := cIndex E t x y) hq)
  | lookup t x y ok =>
    rw [ho] at hq hl
    obtain ⟨h1, hl⟩ := in_r1 hl
    obtain ⟨h2, _⟩ := in_r1 hl
    simp only [execOp, ho]
    exact cLookup_ok c t x y ok h1 h2 (quietK_some (q := cLookup E t x y ok) hq)
  | mapUpdate t m k v => rw [ho] at hq; exact (loudK_quiet (q := cMapPut E t m k v) hq).elim
  | mapEntry t m k => rw [ho] at hq; cases hq
  | entryStore t m s v => rw [ho] at hq; cases hq
  | range t x =>
    rw [ho] at hq hl
    simp only [execOp, ho]
    exact cRange_ok c t x (in_r1 hl).1 (quietK_some (q := cRange E t x) hq)
  | next x s => rw [ho] at hq; cases hq
  | entry x =>
    rw [ho] at hq hl
    injection hq with hq
    subst hq
    simp only [execOp, ho]
    exact qEntry_ok c x (in_r1 hl).1
  | typeAssert x xt t ok =>
    rw [ho] at hq hl
    simp only [execOp, ho]
    exact cAssert_ok c x xt t ok (in_r1 hl).1 (quietK_some (q := cAssert E x t ok) hq)
  | extract x k =>
    rw [ho] at hq hl
    injection hq with hq
    subst hq
    simp only [execOp, ho]
    exact qExtract_ok c x k (in_r1 hl).1
  | call cl => rw [ho] at hq hl; exact quietCall_ok c o cl ho hl hq
  | defer cl =>
    rw [ho] at hq
    have hq' : cDeferK cl = .quiet q := hq
    unfold cDeferK cCallee at hq'
    split at hq' <;> cases hq'
  | _ => rw [ho] at hq; cases hq

end ops
end Go.Proofs.YtbcnedhhebjhdaaGreatDoor.Fa
