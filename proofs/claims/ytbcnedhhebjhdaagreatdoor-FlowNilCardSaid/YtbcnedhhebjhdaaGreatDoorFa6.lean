/-
  Regions that draw their order. No condition.
-/
import Derived.Test.YtbcnedhhebjhdaaGreatDoorFa5
import Derived.Orders

/-
  Regions that draw their order: what the plan's checks say.
-/
namespace Go.Proofs.YtbcnedhhebjhdaaGreatDoor.Fa

theorem bit_eq (m i : Nat) : bit m i = m.testBit i := by
  show Nat.beq (Nat.land (Nat.shiftRight m i) 1) 1 = (1 &&& (m >>> i) != 0)
  have h1 : Nat.land (Nat.shiftRight m i) 1 = (m >>> i) % 2 := Nat.and_one_is_mod (m >>> i)
  rw [h1, Nat.and_comm, Nat.and_one_is_mod]
  rcases Nat.mod_two_eq_zero_or_one (m >>> i) with h | h <;> rw [h] <;> rfl
theorem bit_lor (a c i : Nat) : bit (Nat.lor a c) i = (bit a i || bit c i) := by
  simp only [bit_eq]
  exact Nat.testBit_or a c i
theorem bit_land (a c i : Nat) : bit (Nat.land a c) i = (bit a i && bit c i) := by
  simp only [bit_eq]
  exact Nat.testBit_and a c i
theorem bit_shift (j i : Nat) : bit (Nat.shiftLeft 1 j) i = decide (j = i) := by
  rw [bit_eq]
  have : Nat.shiftLeft 1 j = 2 ^ j := Nat.one_shiftLeft j
  rw [this, Nat.testBit_two_pow]
theorem bit_zero (i : Nat) : bit 0 i = false := by rw [bit_eq]; simp
theorem bit_full (n i : Nat) : bit (Nat.pred (Nat.pow 2 n)) i = decide (i < n) := by
  rw [bit_eq]
  exact Nat.testBit_two_pow_sub_one n i

theorem binding_eq (e : Edge) : binding e.ground = Region.binds .any e := by
  unfold Region.binds
  cases e.ground <;> rfl

/-! ### What stands ahead -/
theorem edgesOf_cons (acc : List Nat) (n : Nat) (e : Edge) (es : List Edge) : edgesOf acc n (e :: es) = bi (andb (binding e.ground) (notb (bit (edgesOf acc n es) e.on))) (Nat.lor (edgesOf acc n es) (Nat.lor (Nat.shiftLeft 1 e.on) (Option.rec (motive := fun _ => Nat) 0 (fun x => x) (lget acc (Nat.sub (Nat.sub n 1) e.on))))) (edgesOf acc n es) := rfl

def orZero (x : Option Nat) : Nat := x.getD 0
theorem orZero_eq (x : Option Nat) : (Option.rec (motive := fun _ => Nat) 0 (fun x => x) x : Nat) = orZero x := by cases x <;> rfl
theorem setAt_eq (bef : List Nat) (i : Nat) : setAt bef i = orZero bef[i]? := by
  show (Option.rec (motive := fun _ => Nat) 0 (fun x => x) (lget bef i) : Nat) = _
  rw [orZero_eq, lget_eq]

theorem edgesOf_bit (acc : List Nat) (n j : Nat) : ∀ es : List Edge, bit (edgesOf acc n es) j = true → ∃ e ∈ es, binding e.ground = true ∧ (e.on = j ∨ bit (orZero acc[n - 1 - e.on]?) j = true)
  | [], h => by
    have : bit 0 j = true := h
    rw [bit_zero] at this
    cases this
  | e :: es, h => by
    rw [edgesOf_cons, bi_eq] at h
    split at h
    · rename_i hb
      simp only [andb_eq, Bool.and_eq_true] at hb
      rw [bit_lor, bit_lor, bit_shift, orZero_eq, lget_eq] at h
      simp only [Bool.or_eq_true, decide_eq_true_eq] at h
      rcases h with h | h | h
      · obtain ⟨e', h1, h2⟩ := edgesOf_bit acc n j es h
        exact ⟨e', List.mem_cons_of_mem _ h1, h2⟩
      · exact ⟨e, List.mem_cons_self, hb.1, .inl h⟩
      · exact ⟨e, List.mem_cons_self, hb.1, .inr h⟩
    · obtain ⟨e', h1, h2⟩ := edgesOf_bit acc n j es h
      exact ⟨e', List.mem_cons_of_mem _ h1, h2⟩

theorem beforeFrom_spec : ∀ (ops : List Oper) (acc : List Nat) (n : Nat), acc.length = n →
    (∀ i, i < n → (beforeFrom ops acc n)[i]? = acc.reverse[i]?) ∧
    (∀ k o, ops[k]? = some o → (beforeFrom ops acc n)[n + k]? = some (edgesOf (((beforeFrom ops acc n).take (n + k)).reverse) (n + k) o.after.toList))
  | [], acc, n, hn => ⟨fun i _ => rfl, fun k o ho => by simp at ho⟩
  | o :: ops, acc, n, hn => by
    have hrec : beforeFrom (o :: ops) acc n = beforeFrom ops (edgesOf acc n o.after.toList :: acc) (n + 1) := by
      show force (edgesOf acc n o.after.toList) (fun m => beforeFrom ops (m :: acc) (Nat.succ n)) = _
      rw [force_eq]
    obtain ⟨h1, h2⟩ := beforeFrom_spec ops (edgesOf acc n o.after.toList :: acc) (n + 1) (by simp [hn])
    rw [hrec]
    have hlow : ∀ i, i < n → (beforeFrom ops (edgesOf acc n o.after.toList :: acc) (n + 1))[i]? = acc.reverse[i]? := fun i hi => by
      rw [h1 i (by omega), List.reverse_cons, List.getElem?_append_left (by simp [hn, hi])]
    refine ⟨hlow, fun k p hp => ?_⟩
    cases k with
    | zero =>
      simp only [List.getElem?_cons_zero, Option.some.injEq] at hp
      subst hp
      have hget := h1 n (by omega)
      rw [List.reverse_cons, List.getElem?_append_right (by simp [hn])] at hget
      simp only [List.length_reverse, hn, Nat.sub_self, List.getElem?_cons_zero] at hget
      have htake : (beforeFrom ops (edgesOf acc n o.after.toList :: acc) (n + 1)).take n = acc.reverse := by
        refine List.ext_getElem? fun i => ?_
        rw [List.getElem?_take]
        split
        · rename_i hi; exact hlow i hi
        · rename_i hi; rw [List.getElem?_eq_none (by simp [hn]; omega)]
      simp only [Nat.add_zero]
      rw [hget, htake, List.reverse_reverse]
    | succ k =>
      simp only [List.getElem?_cons_succ] at hp
      have := h2 k p hp
      rw [show n + (k + 1) = n + 1 + k by omega]
      exact this

theorem opsBack_spec : ∀ (ops : List Oper) (n : Nat), opsBack ops n = true → ∀ k o, ops[k]? = some o → ∀ e ∈ o.after.toList, binding e.ground = true → e.on < n + k
  | [], n, _, k, o, ho => by simp at ho
  | p :: ops, n, h, k, o, ho => by
    have h' : bi (edgesBack n p.after.toList) (opsBack ops (Nat.succ n)) false = true := h
    rw [bi_eq] at h'
    split at h'
    · rename_i hb
      cases k with
      | zero =>
        simp only [List.getElem?_cons_zero, Option.some.injEq] at ho
        subst ho
        have key : ∀ es : List Edge, edgesBack n es = true → ∀ e ∈ es, binding e.ground = true → e.on < n := by
          intro es
          induction es with
          | nil => intro _ e he; cases he
          | cons x es ih =>
            intro hx e he hbe
            have hx' : bi (orb (notb (binding x.ground)) (Nat.blt x.on n)) (edgesBack n es) false = true := hx
            rw [bi_eq] at hx'
            split at hx'
            · rename_i hor
              rcases List.mem_cons.1 he with he | he
              · subst he
                rw [hbe] at hor
                have : Nat.blt e.on n = true := hor
                simpa [Nat.blt_eq] using this
              · exact ih hx' e he hbe
            · cases hx'
        exact key p.after.toList hb
      | succ k =>
        simp only [List.getElem?_cons_succ] at ho
        intro e he hbe
        have := opsBack_spec ops (n + 1) h' k o ho e he hbe
        omega
    · cases h'

/-- Whatever stands ahead stands behind an edge. -/
theorem bef_step {ops : List Oper} (hb : opsBack ops 0 = true) {i : Nat} {o : Oper} (ho : ops[i]? = some o) {j : Nat} (h : bit (setAt (beforeFrom ops [] 0) i) j = true) :
    ∃ e ∈ o.after.toList, binding e.ground = true ∧ e.on < i ∧ (e.on = j ∨ bit (setAt (beforeFrom ops [] 0) e.on) j = true) := by
  obtain ⟨_, h2⟩ := beforeFrom_spec ops [] 0 rfl
  have := h2 i o ho
  rw [Nat.zero_add] at this
  rw [setAt_eq, this] at h
  obtain ⟨e, h3, h4, h5⟩ := edgesOf_bit _ _ j _ h
  have hlt : e.on < i := by have := opsBack_spec ops 0 hb i o ho e h3 h4; omega
  refine ⟨e, h3, h4, hlt, h5.imp id fun h5 => ?_⟩
  have hi : i < (beforeFrom ops [] 0).length := by
    rcases Nat.lt_or_ge i (beforeFrom ops [] 0).length with hh | hh
    · exact hh
    · rw [List.getElem?_eq_none hh] at this; cases this
  rw [setAt_eq]
  have hlen : (List.take i (beforeFrom ops [] 0)).length = i := by rw [List.length_take]; omega
  rw [List.getElem?_reverse (by rw [hlen]; omega), hlen, List.getElem?_take, if_pos (by omega)] at h5
  have : i - 1 - (i - 1 - e.on) = e.on := by omega
  rw [this] at h5
  exact h5

/-! ### Temporaries -/
theorem writersIn_spec (m t : Nat) : ∀ l : List Elder, writersIn m t l = true → ∀ j, (j, t) ∈ l → bit m j = true
  | [], _, j, hj => by cases hj
  | e :: l, h, j, hj => by
    have h' : bi (Nat.beq e.2 t) (bi (bit m e.1) (writersIn m t l) false) (writersIn m t l) = true := h
    rw [bi_eq] at h'
    split at h'
    · rename_i he
      rw [bi_eq] at h'
      split at h'
      · rename_i hb
        rcases List.mem_cons.1 hj with hj | hj
        · subst hj; exact hb
        · exact writersIn_spec m t l h' j hj
      · cases h'
    · rename_i he
      rcases List.mem_cons.1 hj with hj | hj
      · subst hj; exact absurd (Nat.beq_refl t) he
      · exact writersIn_spec m t l h' j hj

theorem readsIn_spec (m written : Nat) (ws : List Elder) : ∀ ts : List Nat, readsIn m written ws ts = true → ∀ t ∈ ts, bit written t = true → writersIn m t ws = true
  | [], _, t, ht, _ => by cases ht
  | u :: ts, h, t, ht, hw => by
    have h' : bi (bi (bit written u) (writersIn m u ws) true) (readsIn m written ws ts) false = true := h
    rw [bi_eq] at h'
    split at h'
    · rename_i hb
      rcases List.mem_cons.1 ht with ht | ht
      · subst ht; rw [hw] at hb; exact hb
      · exact readsIn_spec m written ws ts h' t ht hw
    · cases h'

theorem memN_mem (t : Nat) (l : List Nat) : memN t l = true ↔ t ∈ l := by
  rw [memN_eq]; simp

theorem readersIn_spec (m t : Nat) : ∀ l : List (Nat × List Nat), readersIn m t l = true → ∀ j rs, (j, rs) ∈ l → t ∈ rs → bit m j = true
  | [], _, j, rs, hj, _ => by cases hj
  | e :: l, h, j, rs, hj, ht => by
    have h' : bi (memN t e.2) (bi (bit m e.1) (readersIn m t l) false) (readersIn m t l) = true := h
    rw [bi_eq] at h'
    split at h'
    · rw [bi_eq] at h'
      split at h'
      · rename_i hb
        rcases List.mem_cons.1 hj with hj | hj
        · subst hj; exact hb
        · exact readersIn_spec m t l h' j rs hj ht
      · cases h'
    · rename_i he
      rcases List.mem_cons.1 hj with hj | hj
      · subst hj; exact absurd ((memN_mem t _).2 ht) he
      · exact readersIn_spec m t l h' j rs hj ht

theorem maskL_bit (t : Nat) (m : Nat) : ∀ l : List Nat, (t ∈ l ∨ bit m t = true) → bit (maskL l m) t = true
  | [], h => by
    rcases h with h | h
    · cases h
    · exact h
  | u :: l, h => by
    show bit (Nat.lor (Nat.shiftLeft 1 u) (maskL l m)) t = true
    rw [bit_lor, bit_shift]
    rcases h with h | h
    · rcases List.mem_cons.1 h with h | h
      · subst h; simp
      · simp [maskL_bit t m l (.inl h)]
    · simp [maskL_bit t m l (.inr h)]

/-- Two operations of a region and the temporaries. -/
def Apart (dsts : List (Option Nat)) (bef : List Nat) (i j : Nat) (oi oj : Oper) : Prop :=
  (∀ d, oj.dst = some d → oi.dst ≠ some d) ∧ (∀ t, oj.dst = some t → t ∈ readsOf dsts oi → bit (setAt bef i) j = true) ∧ (∀ t, t ∈ readsOf dsts oj → oi.dst = some t → bit (setAt bef i) j = true)

theorem raceFree_from (dsts : List (Option Nat)) (bef : List Nat) : ∀ (ops pre : List Oper) (i written read : Nat) (ws : List Elder) (rds : List (Nat × List Nat)), pre.length = i →
    (∀ j (o : Oper) d, pre[j]? = some o → o.dst = some d → bit written d = true ∧ (j, d) ∈ ws) →
    (∀ j (o : Oper) t, pre[j]? = some o → t ∈ readsOf dsts o → bit read t = true ∧ ∃ rs, (j, rs) ∈ rds ∧ t ∈ rs) →
    raceFree dsts ops (bef.drop i) i written read ws rds = true →
    ∀ k oi, ops[k]? = some oi → ∀ j oj, j < i + k → (pre ++ ops)[j]? = some oj → Apart dsts bef (i + k) j oi oj
  | [], _, _, _, _, _, _, _, _, _, _, k, oi, hk => by simp at hk
  | o :: ops, pre, i, written, read, ws, rds, hlen, hw, hr, h, k, oi, hk => by
    have h' : (List.rec (motive := fun _ => Bool) false (fun m bef _ =>
      bi (readsIn m written ws (readsOf dsts o))
        (Option.rec (motive := fun _ => Bool) (force (maskL (readsOf dsts o) read) fun read => raceFree dsts ops bef (Nat.succ i) written read ws ((i, readsOf dsts o) :: rds))
          (fun d => bi (andb (notb (bit written d)) (bi (bit read d) (readersIn m d rds) true))
            (force (maskL (readsOf dsts o) read) fun read => force (Nat.lor (Nat.shiftLeft 1 d) written) fun written => raceFree dsts ops bef (Nat.succ i) written read ((i, d) :: ws) ((i, readsOf dsts o) :: rds)) false) o.dst) false) (bef.drop i) : Bool) = true := h
    cases hb : bef.drop i with
    | nil => rw [hb] at h'; cases h'
    | cons m bef' =>
      rw [hb] at h'
      have hm : setAt bef i = m := by
        rw [setAt_eq]
        have : (bef.drop i)[0]? = some m := by rw [hb]; rfl
        rw [List.getElem?_drop, Nat.add_zero] at this
        rw [this]
        rfl
      have hdrop : bef' = bef.drop (i + 1) := by
        have : (bef.drop i).drop 1 = bef' := by rw [hb]; rfl
        rw [← this, List.drop_drop]
      have h1 : bi (readsIn m written ws (readsOf dsts o))
        (Option.rec (motive := fun _ => Bool) (force (maskL (readsOf dsts o) read) fun read => raceFree dsts ops bef' (Nat.succ i) written read ws ((i, readsOf dsts o) :: rds))
          (fun d => bi (andb (notb (bit written d)) (bi (bit read d) (readersIn m d rds) true))
            (force (maskL (readsOf dsts o) read) fun read => force (Nat.lor (Nat.shiftLeft 1 d) written) fun written => raceFree dsts ops bef' (Nat.succ i) written read ((i, d) :: ws) ((i, readsOf dsts o) :: rds)) false) o.dst) false = true := h'
      rw [bi_eq] at h1
      split at h1
      · rename_i hreads
        -- the operation at hand against the elder ones
        have hhere : (∀ d, o.dst = some d → bit written d = false ∧ (bit read d = true → readersIn m d rds = true)) ∧ (∃ written' ws', raceFree dsts ops (bef.drop (i + 1)) (i + 1) written' (maskL (readsOf dsts o) read) ws' ((i, readsOf dsts o) :: rds) = true ∧
            (∀ t, bit written t = true → bit written' t = true) ∧ (∀ x ∈ ws, x ∈ ws') ∧ (∀ d, o.dst = some d → bit written' d = true ∧ (i, d) ∈ ws')) := by
          cases hd : o.dst with
          | none =>
            rw [hd] at h1
            have h2 : force (maskL (readsOf dsts o) read) (fun read => raceFree dsts ops bef' (Nat.succ i) written read ws ((i, readsOf dsts o) :: rds)) = true := h1
            rw [force_eq, hdrop] at h2
            exact ⟨fun d hd' => (by cases hd'), written, ws, h2, fun _ h => h, fun _ h => h, fun d hd' => (by cases hd')⟩
          | some d =>
            rw [hd] at h1
            have h2 : bi (andb (notb (bit written d)) (bi (bit read d) (readersIn m d rds) true))
              (force (maskL (readsOf dsts o) read) fun read => force (Nat.lor (Nat.shiftLeft 1 d) written) fun written => raceFree dsts ops bef' (Nat.succ i) written read ((i, d) :: ws) ((i, readsOf dsts o) :: rds)) false = true := h1
            rw [bi_eq] at h2
            split at h2
            · rename_i hc
              rw [force_eq, force_eq, hdrop] at h2
              simp only [andb_eq, Bool.and_eq_true] at hc
              refine ⟨fun d' hd' => ?_, _, _, h2, fun t ht => ?_, fun x hx => List.mem_cons_of_mem _ hx, fun d' hd' => ?_⟩
              · injection hd' with hd'
                subst hd'
                refine ⟨?_, fun hrd => ?_⟩
                · have hc1 := hc.1
                  cases hwd : bit written d with
                  | true => rw [hwd] at hc1; cases hc1
                  | false => rfl
                · have hc2 := hc.2
                  rw [hrd] at hc2
                  exact hc2
              · rw [bit_lor, ht]; simp
              · injection hd' with hd'
                subst hd'
                exact ⟨by rw [bit_lor, bit_shift]; simp, List.mem_cons_self⟩
            · cases h2
        obtain ⟨hdst, written', ws', hrest, hw1, hw2, hw3⟩ := hhere
        cases k with
        | zero =>
          simp only [List.getElem?_cons_zero, Option.some.injEq] at hk
          subst hk
          intro j oj hj hoj
          rw [List.getElem?_append_left (by omega)] at hoj
          rw [Nat.add_zero]
          refine ⟨fun d hdj hdi => ?_, fun t htj hti => ?_, fun t htj hti => ?_⟩
          · have := (hw j oj d hoj hdj).1
            rw [(hdst d hdi).1] at this
            cases this
          · obtain ⟨h3, h4⟩ := hw j oj t hoj htj
            rw [hm]
            exact writersIn_spec m t ws (readsIn_spec m written ws _ hreads t hti h3) j h4
          · obtain ⟨h3, rs, h4, h5⟩ := hr j oj t hoj htj
            rw [hm]
            exact readersIn_spec m t rds ((hdst t hti).2 h3) j rs h4 h5
        | succ k =>
          simp only [List.getElem?_cons_succ] at hk
          have ih := raceFree_from dsts bef ops (pre ++ [o]) (i + 1) written' (maskL (readsOf dsts o) read) ws' ((i, readsOf dsts o) :: rds) (by simp [hlen]) (fun j p d hp hpd => ?_) (fun j p t hp ht => ?_) hrest k oi hk
          · intro j oj hj hoj
            rw [show i + (k + 1) = i + 1 + k by omega] at hj ⊢
            exact ih j oj hj (by rw [List.append_assoc]; exact hoj)
          · rw [List.getElem?_append] at hp
            split at hp
            · obtain ⟨h3, h4⟩ := hw j p d hp hpd
              exact ⟨hw1 d h3, hw2 _ h4⟩
            · rename_i hge
              have hj0 : j = i := by
                have : j - pre.length = 0 := by
                  rcases Nat.eq_zero_or_pos (j - pre.length) with h | h
                  · exact h
                  · rw [List.getElem?_eq_none (by simp; omega)] at hp; cases hp
                omega
              subst hj0
              rw [hlen, Nat.sub_self] at hp
              simp only [List.getElem?_cons_zero, Option.some.injEq] at hp
              subst hp
              exact hw3 d hpd
          · rw [List.getElem?_append] at hp
            split at hp
            · obtain ⟨h3, rs, h4, h5⟩ := hr j p t hp ht
              exact ⟨maskL_bit t read _ (.inr h3), rs, List.mem_cons_of_mem _ h4, h5⟩
            · rename_i hge
              have hj0 : j = i := by
                have : j - pre.length = 0 := by
                  rcases Nat.eq_zero_or_pos (j - pre.length) with h | h
                  · exact h
                  · rw [List.getElem?_eq_none (by simp; omega)] at hp; cases hp
                omega
              subst hj0
              rw [hlen, Nat.sub_self] at hp
              simp only [List.getElem?_cons_zero, Option.some.injEq] at hp
              subst hp
              exact ⟨maskL_bit t read _ (.inl ht), _, List.mem_cons_self, ht⟩
      · cases h1

theorem raceFree_ok {dsts : List (Option Nat)} {ops : List Oper} {bef : List Nat} (h : raceFree dsts ops bef 0 0 0 [] [] = true) {i j : Nat} {oi oj : Oper} (hi : ops[i]? = some oi) (hj : ops[j]? = some oj) (hlt : j < i) : Apart dsts bef i j oi oj := by
  have := raceFree_from dsts bef ops [] 0 0 0 [] [] rfl (fun j o d ho => by simp at ho) (fun j o t ho => by simp at ho) h i oi hi j oj (by omega) hj
  rw [Nat.zero_add] at this
  exact this

/-! ### The plan -/
def isLoud (ops : List Oper) (i : Nat) : Bool := (ops[i]?).any fun o => loud o.op

theorem planFrom_cons (E : Env0) (dsts : List (Option Nat)) (ops : List Oper) (bef : List Nat) (i : Nat) (is : List Nat) (done : Nat) (louds : List Nat) : planFrom E dsts ops bef (i :: is) done louds =
    ob (lget ops i) fun o => bi (fits (loud o.op) (setAt bef i) done i)
      (force (Nat.lor done (Nat.shiftLeft 1 i)) fun d => ob (planFrom E dsts ops bef is d (bi (loud o.op) (i :: louds) louds)) fun l => some ({ op := cOp E dsts o, ld := loud o.op, older := countW (setAt bef i) louds } :: l)) none := rfl

theorem planFrom_spec (E : Env0) (dsts : List (Option Nat)) (ops : List Oper) (bef : List Nat) : ∀ (is pre : List Nat) (done : Nat) (louds : List Nat) (steps : List Step), (∀ j, bit done j = true ↔ j ∈ pre) → louds = (pre.filter (isLoud ops)).reverse →
    planFrom E dsts ops bef is done louds = some steps →
    steps.length = is.length ∧ (∀ i, i < ops.length → i ∈ pre ++ is) ∧
    ∀ q i, is[q]? = some i → ∃ o, ops[i]? = some o ∧ steps[q]? = some { op := cOp E dsts o, ld := loud o.op, older := countW (setAt bef i) ((pre ++ is.take q).filter (isLoud ops)).reverse } ∧ i ∉ pre ++ is.take q ∧
      (∀ j, bit (setAt bef i) j = true → j ∈ pre ++ is.take q) ∧ (loud o.op = true → ∀ j ∈ pre ++ is.take q, bit (setAt bef i) j = true)
  | [], pre, done, louds, steps, hdone, hl, h => by
    have h' : bi (Nat.beq done (Nat.pred (Nat.pow 2 (llen ops)))) (some []) none = some steps := h
    rw [bi_eq] at h'
    split at h'
    · rename_i hb
      injection h' with h'
      subst h'
      refine ⟨rfl, fun i hi => ?_, fun q i hq => by simp at hq⟩
      rw [List.append_nil, ← hdone, Nat.eq_of_beq_eq_true hb, bit_full]
      have : llen ops = ops.length := by simp
      rw [this]
      simpa using hi
    · cases h'
  | i :: is, pre, done, louds, steps, hdone, hl, h => by
    rw [planFrom_cons, ob_eq_some] at h
    obtain ⟨o, ho, h⟩ := h
    rw [lget_eq] at ho
    rw [bi_eq] at h
    split at h
    · rename_i hf
      rw [force_eq, ob_eq_some] at h
      obtain ⟨l, hl', h⟩ := h
      injection h with h
      subst h
      have hlo : isLoud ops i = loud o.op := by unfold isLoud; rw [ho]; rfl
      have hdone' : ∀ j, bit (Nat.lor done (Nat.shiftLeft 1 i)) j = true ↔ j ∈ pre ++ [i] := fun j => by
        rw [bit_lor, bit_shift]
        simp only [Bool.or_eq_true, decide_eq_true_eq, List.mem_append, List.mem_singleton, hdone]
        constructor <;> rintro (h | h)
        · exact .inl h
        · exact .inr h.symm
        · exact .inl h
        · exact .inr h.symm
      have hlouds' : bi (loud o.op) (i :: louds) louds = ((pre ++ [i]).filter (isLoud ops)).reverse := by
        rw [bi_eq, List.filter_append, List.reverse_append, hl]
        cases hlx : loud o.op with
        | true => simp [hlo, hlx]
        | false => simp [hlo, hlx]
      obtain ⟨h1, h2, h3⟩ := planFrom_spec E dsts ops bef is (pre ++ [i]) _ _ l hdone' hlouds' hl'
      refine ⟨by simp [h1], fun j hj => by have := h2 j hj; simpa using this, fun q j hq => ?_⟩
      cases q with
      | zero =>
        simp only [List.getElem?_cons_zero, Option.some.injEq] at hq
        subst hq
        have hf' : andb (notb (bit done i)) (bi (loud o.op) (Nat.beq (setAt bef i) done) (Nat.beq (Nat.land (setAt bef i) done) (setAt bef i))) = true := hf
        simp only [andb_eq, Bool.and_eq_true] at hf'
        obtain ⟨hf1, hf2⟩ := hf'
        have hnd : bit done i = false := by
          cases hx : bit done i with
          | true => rw [hx] at hf1; cases hf1
          | false => rfl
        refine ⟨o, ho, by rw [hl]; simp, ?_, fun j hj => ?_, fun hld j hj => ?_⟩
        · simp only [List.take_zero, List.append_nil]
          rw [← hdone, hnd]
          exact Bool.false_ne_true
        · simp only [List.take_zero, List.append_nil]
          rw [← hdone]
          rw [bi_eq] at hf2
          split at hf2
          · rw [← Nat.eq_of_beq_eq_true hf2]; exact hj
          · rw [← Nat.eq_of_beq_eq_true hf2, bit_land] at hj
            simp only [Bool.and_eq_true] at hj
            exact hj.2
        · simp only [List.take_zero, List.append_nil] at hj
          rw [← hdone] at hj
          rw [hld] at hf2
          rw [Nat.eq_of_beq_eq_true (show Nat.beq (setAt bef i) done = true from hf2)]
          exact hj
      | succ q =>
        simp only [List.getElem?_cons_succ] at hq
        obtain ⟨p, h4, h5, h6⟩ := h3 q j hq
        refine ⟨p, h4, ?_⟩
        simp only [List.getElem?_cons_succ, List.take_succ_cons]
        have happ : pre ++ [i] ++ is.take q = pre ++ i :: is.take q := by simp
        rw [happ] at h5 h6
        exact ⟨h5, h6⟩
    · cases h

theorem countW_ge (m : Nat) : ∀ (l : List Nat) (c : Nat), c ≤ l.length → (∀ j, j < c → ∀ x, l[j]? = some x → bit m x = false) → c ≤ countW m l
  | [], c, hc, _ => by simp at hc; omega
  | e :: l, c, hc, h => by
    cases c with
    | zero => exact Nat.zero_le _
    | succ c =>
      have h0 := h 0 (by omega) e rfl
      have hrec : countW m (e :: l) = countW m l + 1 := by
        show bi (bit m e) 0 (Nat.succ (countW m l)) = _
        rw [h0]
        rfl
      rw [hrec]
      have := countW_ge m l c (by simpa using hc) fun j hj x hx => h (j + 1) (by omega) x (by simpa using hx)
      omega

end Go.Proofs.YtbcnedhhebjhdaaGreatDoor.Fa

/-
  Regions that draw their order: the plan's run, step by step; what a step lays.
-/
namespace Go.Proofs.YtbcnedhhebjhdaaGreatDoor.Fa

/-- The plan's state between two steps. -/
structure AS where
  stages : List Heap
  lc : Lc
  st : St

noncomputable def AS.on (ld : Bool) (x : AS) (lc : Lc) (st : St) : AS := { stages := bi ld (st.heap :: x.stages) x.stages, lc := lc, st := st }

theorem lastOnly_eq (l : List Step) (ch : List APan) (lc : Lc) (st : St) (h : lastOnly l (.panic ch lc st) ≠ .fail) : l = [] ∧ lastOnly l (.panic ch lc st) = .panic ch lc st := by
  cases l with
  | nil => exact ⟨rfl, rfl⟩
  | cons s l => exact absurd rfl h

theorem xDraw_cons (rx : Rx) (fr : Tr AV) (s : Step) (l : List Step) (stages : List Heap) (lc : Lc) (st : St) : xDraw rx fr (s :: l) stages lc st = RO.casesOn (motive := fun _ => RO) (stepD rx s fr stages lc st) .fail
      (fun lc st' => bi (Nat.ble st.next st'.next) (xDraw rx fr l (bi s.ld (st'.heap :: stages) stages) lc st') .fail) (fun ch lc st => lastOnly l (.panic ch lc st)) := rfl

/-- The plan's run. -/
theorem xDraw_trace (rx : Rx) (fr : Tr AV) : ∀ (steps : List Step) (x : AS) (r : RO), xDraw rx fr steps x.stages x.lc x.st = r → r ≠ .fail →
    ∃ (S : Nat → AS) (n : Nat), S 0 = x ∧ n ≤ steps.length ∧
      (∀ q, q < n → ∃ s lc' st', steps[q]? = some s ∧ stepD rx s fr (S q).stages (S q).lc (S q).st = .on lc' st' ∧ (S q).st.next ≤ st'.next ∧ S (q + 1) = (S q).on s.ld lc' st') ∧
      ((n = steps.length ∧ r = .on (S n).lc (S n).st) ∨
       (n + 1 = steps.length ∧ ∃ s ch lc' st', steps[n]? = some s ∧ stepD rx s fr (S n).stages (S n).lc (S n).st = .panic ch lc' st' ∧ r = .panic ch lc' st'))
  | [], x, r, h, _ => by
    refine ⟨fun _ => x, 0, rfl, Nat.le_refl _, fun q hq => by omega, .inl ⟨rfl, ?_⟩⟩
    rw [← h]
    rfl
  | s :: l, x, r, h, hr => by
    rw [xDraw_cons] at h
    cases hs : stepD rx s fr x.stages x.lc x.st with
    | fail => rw [hs] at h; exact absurd h.symm hr
    | on lc' st' =>
      rw [hs] at h
      have h1 : bi (Nat.ble x.st.next st'.next) (xDraw rx fr l (bi s.ld (st'.heap :: x.stages) x.stages) lc' st') .fail = r := h
      rw [bi_eq] at h1
      split at h1
      · rename_i hle
        obtain ⟨S, n, hS0, hn, hrun, hend⟩ := xDraw_trace rx fr l (x.on s.ld lc' st') r h1 hr
        refine ⟨fun q => match q with | 0 => x | q + 1 => S q, n + 1, rfl, by simpa using hn, fun q hq => ?_, ?_⟩
        · cases q with
          | zero => exact ⟨s, lc', st', rfl, hs, Nat.le_of_ble_eq_true hle, hS0⟩
          | succ q =>
            obtain ⟨s', lc2, st2, h2, h3, h4⟩ := hrun q (by omega)
            exact ⟨s', lc2, st2, by simpa using h2, h3, h4⟩
        · rcases hend with ⟨h2, h3⟩ | ⟨h2, s', ch, lc2, st2, h3, h4⟩
          · exact .inl ⟨by simp [h2], h3⟩
          · exact .inr ⟨by simp [← h2], s', ch, lc2, st2, by simpa using h3, h4⟩
      · exact absurd h1.symm hr
    | panic ch lc' st' =>
      rw [hs] at h
      have h1 : lastOnly l (.panic ch lc' st') = r := h
      obtain ⟨h2, h3⟩ := lastOnly_eq l ch lc' st' (by rw [h1]; exact hr)
      subst h2
      rw [h3] at h1
      exact ⟨fun _ => x, 0, rfl, Nat.zero_le _, fun q hq => by omega, .inr ⟨rfl, s, ch, lc', st', rfl, hs, h1.symm⟩⟩

/-! ### What a step lays -/
def LcStep (dst : Option Nat) (lc lc' : Lc) : Prop := (∃ v, lc' = putLc dst v lc) ∨ ∃ u, lc' = putAs dst u lc

theorem LcStep.get {dst : Option Nat} {lc lc' : Lc} (h : LcStep dst lc lc') {fr : Tr AV} {t : Nat} (ht : dst ≠ some t) : lc'.get fr t = lc.get fr t := by
  rcases h with ⟨v, rfl⟩ | ⟨u, rfl⟩
  · cases dst with
    | none => rfl
    | some d =>
      show (Lc.cons d v lc).get fr t = _
      rw [Lc.get_cons, if_neg fun he => ht (by rw [he])]
  · cases dst with
    | none => rfl
    | some d =>
      show (Lc.alias d u lc).get fr t = _
      rw [Lc.get_alias, if_neg fun he => ht (by rw [he])]

def ROStep (dst : Option Nat) (lc : Lc) : RO → Prop
  | .fail => True
  | .on lc' _ => LcStep dst lc lc'
  | .panic _ lc' _ => lc' = lc

section shape
variable {fr : Tr AV} {lc : Lc} {st : St} {dst : Option Nat}

theorem afterQ_step (q : QR) : ROStep dst lc (afterQ dst lc st q) := by
  cases q with
  | fail => trivial
  | val v => exact .inl ⟨v, rfl⟩
  | made v bl => exact .inl ⟨v, rfl⟩
  | resv v => exact .inl ⟨v, rfl⟩

theorem xKind_step (rx : Rx) (kk : CKind) : ROStep dst lc (xKind rx dst fr lc st kk) := by
  cases kk with
  | bad => trivial
  | same u => exact .inr ⟨u, rfl⟩
  | quiet q => exact afterQ_step _
  | loud l => exact orr_some (Φ := ROStep dst lc) trivial fun r _ => .inl ⟨r.1, rfl⟩
  | call c =>
    refine orr_some (Φ := ROStep dst lc) trivial fun c _ => orr_some (Φ := ROStep dst lc) trivial fun r _ => ?_
    obtain ⟨e, st'⟩ := r
    cases e with
    | returned v => exact .inl ⟨v, rfl⟩
    | panicked ch => rfl
  | defer c =>
    refine bi_elim (Φ := ROStep dst lc) (fun _ => trivial) fun _ => orr_some (Φ := ROStep dst lc) trivial fun c _ => ?_
    cases c with
    | func f as => exact .inl ⟨.undef, rfl⟩
    | yield l as => trivial
  | panic x => exact orr_some (Φ := ROStep dst lc) trivial fun v _ => bi_elim (Φ := ROStep dst lc) (fun _ => rfl) fun _ => trivial
  | recover => exact bi_elim (Φ := ROStep dst lc) (fun _ => trivial) fun _ => orr_some (Φ := ROStep dst lc) trivial fun r _ => .inl ⟨r.1, rfl⟩

theorem lookD_step (q : QF) (older : Nat) (stages : List Heap) : ROStep dst lc (lookD q dst older fr stages lc st) := by
  unfold lookD
  split
  · trivial
  · split
    · exact bi_elim (Φ := ROStep dst lc) (fun _ => .inl ⟨_, rfl⟩) fun _ => trivial
    · trivial

theorem kindD_step (rx : Rx) (s : Step) (stages : List Heap) : ROStep s.op.dst lc (kindD rx s fr stages lc st) := by
  unfold kindD
  split
  · unfold quietD
    split
    · exact lookD_step _ _ _
    · exact afterQ_step _
  · exact xKind_step _ _

theorem stepD_step (rx : Rx) (s : Step) (stages : List Heap) : ROStep s.op.dst lc (stepD rx s fr stages lc st) :=
  orr_some (Φ := ROStep s.op.dst lc) trivial fun _ _ => bi_elim (Φ := ROStep s.op.dst lc) (fun _ => kindD_step _ _ _) fun _ => .inl ⟨.undef, rfl⟩
end shape

/-! ### Which kinds are quiet -/
section loudness
variable {E : Env0} {op : Op}
theorem loud_quiet (h : loud op = true) {q : QF} (hq : cKind E op = .quiet q) : False := by
  cases op with
  | call cl =>
    have hq' : cCallK E cl = .quiet q := hq
    have h' : loudCall cl = true := h
    unfold cCallK cCallee at hq'
    unfold loudCall at h'
    split at hq'
    · cases hq'
    · rename_i b hb
      rw [hb] at h'
      have hq2 : cBuiltinK E b cl.argTypes.toList cl.args.toList = .quiet q := hq'
      unfold cBuiltinK at hq2
      split at hq2 <;> first | exact (loudK_quiet hq2).elim | cases hq2 | (cases h'; done)
    · cases hq'
  | defer cl => exact quiet_noDefer (o := { dst := none, op := .defer cl, type := 0, pos := "", after := #[], guard := none }) hq cl rfl
  | insert t m k v => exact loudK_quiet (q := cMapPut E t m k v) hq
  | mapUpdate t m k v => exact loudK_quiet (q := cMapPut E t m k v) hq
  | store t a x => exact loudK_quiet (q := cStore E t a x) hq
  | _ => first | (cases hq; done) | (cases h; done)

/-- A quiet operation's kind. -/
theorem quiet_kind (h : loud op = false) : cKind E op = .bad ∨ (∃ q, cKind E op = .quiet q) ∨ ∃ u, cKind E op = .same u := by
  have hq : ∀ q : QM, quietK q = .bad ∨ (∃ f, quietK q = .quiet f) ∨ ∃ u, quietK q = .same u := fun q => by
    rcases quietK_tag q with h | ⟨f, h⟩
    · exact .inl h
    · exact .inr (.inl ⟨f, h⟩)
  have hm : ∀ x : Operand, cMove x = .bad ∨ (∃ f, cMove x = .quiet f) ∨ ∃ u, cMove x = .same u := fun x => by
    cases x with
    | tmp t => exact .inr (.inr ⟨t, rfl⟩)
    | _ => exact .inr (.inl ⟨_, rfl⟩)
  cases op with
  | move x => exact hm x
  | assign x => exact hm x
  | call cl =>
    have h' : loudCall cl = false := h
    unfold loudCall at h'
    split at h'
    · rename_i b hb
      have hk : cKind E (.call cl) = cBuiltinK E b cl.argTypes.toList cl.args.toList := by
        show cCallK E cl = _
        unfold cCallK cCallee
        rw [hb]
      rw [hk]
      split at h' <;> first | exact hq _ | cases h'
    · cases h'
  | _ => first | (cases h; done) | exact .inl rfl | exact .inr (.inl ⟨_, rfl⟩) | exact hq _
end loudness

end Go.Proofs.YtbcnedhhebjhdaaGreatDoor.Fa

/-
  Regions that draw their order: the plan as a whole; what it says of any order that the model may draw.
-/
namespace Go.Proofs.YtbcnedhhebjhdaaGreatDoor.Fa

noncomputable abbrev befOf (ops : Array Oper) : List Nat := beforeFrom ops.toList [] 0
noncomputable def stepOf (E : Env0) (ops : Array Oper) (is : List Nat) (q i : Nat) (o : Oper) : Step :=
  { op := cOp E (dstsOf ops.toList) o, ld := loud o.op, older := countW (setAt (befOf ops) i) ((is.take q).filter (isLoud ops.toList)).reverse }

structure DrawCtx (E : Env0) (nt : Nat) (rx : Rx) (fr : Tr AV) (ops : Array Oper) (is : List Nat) (S : Nat → AS) (n : Nat) : Prop where
  back : opsBack ops.toList 0 = true
  race : raceFree (dstsOf ops.toList) ops.toList (befOf ops) 0 0 0 [] [] = true
  pos : ∀ (q i : Nat), is[q]? = some i → ∃ o, ops[i]? = some o ∧ i ∉ is.take q ∧ (∀ j, bit (setAt (befOf ops) i) j = true → j ∈ is.take q) ∧ (loud o.op = true → ∀ j ∈ is.take q, bit (setAt (befOf ops) i) j = true)
  run : ∀ (q i : Nat) (o : Oper), q < n → is[q]? = some i → ops[i]? = some o → ∃ lc' st', stepD rx (stepOf E ops is q i o) fr (S q).stages (S q).lc (S q).st = .on lc' st' ∧ (S q).st.next ≤ st'.next ∧ S (q + 1) = (S q).on (loud o.op) lc' st'
  dlt : ∀ (i : Nat) (o : Oper) (d : Nat), ops[i]? = some o → o.dst = some d → d < nt
  nle : n ≤ is.length

theorem mem_take {α : Type} {l : List α} {q : Nat} {x : α} : x ∈ l.take q ↔ ∃ p, p < q ∧ l[p]? = some x := by
  rw [List.mem_iff_getElem?]
  constructor
  · rintro ⟨p, hp⟩
    rw [List.getElem?_take] at hp
    split at hp
    · rename_i h; exact ⟨p, h, hp⟩
    · cases hp
  · rintro ⟨p, h1, h2⟩
    exact ⟨p, by rw [List.getElem?_take, if_pos h1]; exact h2⟩

section ctx
variable {E : Env0} {nt : Nat} {rx : Rx} {fr : Tr AV} {ops : Array Oper} {is : List Nat} {S : Nat → AS} {n : Nat}

theorem DrawCtx.inj (c : DrawCtx E nt rx fr ops is S n) {p q i : Nat} (hp : is[p]? = some i) (hq : is[q]? = some i) : p = q := by
  rcases Nat.lt_trichotomy p q with h | h | h
  · obtain ⟨o, _, h2, _⟩ := c.pos q i hq
    exact absurd (mem_take.2 ⟨p, h, hp⟩) h2
  · exact h
  · obtain ⟨o, _, h2, _⟩ := c.pos p i hp
    exact absurd (mem_take.2 ⟨q, h, hq⟩) h2

theorem DrawCtx.at (c : DrawCtx E nt rx fr ops is S n) {q : Nat} (hq : q < n) : ∃ i o, is[q]? = some i ∧ ops[i]? = some o := by
  have hlt : q < is.length := Nat.lt_of_lt_of_le hq c.nle
  obtain ⟨o, ho, _⟩ := c.pos q is[q] (List.getElem?_eq_getElem hlt)
  exact ⟨is[q], o, List.getElem?_eq_getElem hlt, ho⟩

theorem DrawCtx.step (c : DrawCtx E nt rx fr ops is S n) {q : Nat} (hq : q < n) : (S q).st.next ≤ (S (q + 1)).st.next := by
  obtain ⟨i, o, h1, h2⟩ := c.at hq
  obtain ⟨lc', st', _, h4, h5⟩ := c.run q i o hq h1 h2
  rw [h5]
  exact h4

theorem DrawCtx.mono (c : DrawCtx E nt rx fr ops is S n) {p : Nat} : ∀ {q : Nat}, p ≤ q → q ≤ n → (S p).st.next ≤ (S q).st.next := by
  intro q
  induction q with
  | zero => intro h _; have : p = 0 := by omega
            subst this; exact Nat.le_refl _
  | succ q ih =>
    intro h hn
    rcases Nat.lt_or_ge p (q + 1) with hlt | hge
    · exact Nat.le_trans (ih (by omega) (by omega)) (c.step (by omega))
    · have : p = q + 1 := by omega
      subst this
      exact Nat.le_refl _

/-- Whatever no step between lays stays as it is. -/
theorem DrawCtx.lcSame (c : DrawCtx E nt rx fr ops is S n) {p t : Nat} : ∀ {q : Nat}, p ≤ q → q ≤ n → (∀ (p' i : Nat) (o : Oper), p ≤ p' → p' < q → is[p']? = some i → ops[i]? = some o → o.dst ≠ some t) → (S q).lc.get fr t = (S p).lc.get fr t := by
  intro q
  induction q with
  | zero => intro h _ _; have : p = 0 := by omega
            subst this; rfl
  | succ q ih =>
    intro h hn hw
    rcases Nat.lt_or_ge p (q + 1) with hlt | hge
    · rw [← ih (by omega) (by omega) fun p' i o h1 h2 => hw p' i o h1 (by omega)]
      obtain ⟨i, o, h1, h2⟩ := c.at (q := q) (by omega)
      obtain ⟨lc', st', h3, _, h5⟩ := c.run q i o (by omega) h1 h2
      rw [h5]
      have hs := stepD_step (fr := fr) (lc := (S q).lc) (st := (S q).st) rx (stepOf E ops is q i o) (S q).stages
      rw [h3] at hs
      exact LcStep.get hs (hw q i o (by omega) (by omega) h1 h2)
    · have : p = q + 1 := by omega
      subst this
      rfl

/-- The elder memories. -/
theorem DrawCtx.drop (c : DrawCtx E nt rx fr ops is S n) {p : Nat} : ∀ {q : Nat}, p ≤ q → q ≤ n → (S q).stages.drop (((is.take q).drop p).filter (isLoud ops.toList)).length = (S p).stages := by
  intro q
  induction q with
  | zero => intro h _; have : p = 0 := by omega
            subst this; rfl
  | succ q ih =>
    intro h hn
    rcases Nat.lt_or_ge p (q + 1) with hlt | hge
    · obtain ⟨i, o, h1, h2⟩ := c.at (q := q) (by omega)
      obtain ⟨lc', st', _, _, h5⟩ := c.run q i o (by omega) h1 h2
      have hih := ih (by omega) (by omega)
      have hq : q < is.length := by have := c.nle; omega
      have htake : is.take (q + 1) = is.take q ++ [i] := by
        rw [List.take_add_one, h1]
        rfl
      have hdrop : (is.take (q + 1)).drop p = (is.take q).drop p ++ [i] := by
        rw [htake, List.drop_append_of_le_length (by rw [List.length_take]; omega)]
      have hl : isLoud ops.toList i = loud o.op := by
        unfold isLoud
        have : ops.toList[i]? = some o := by rw [Array.getElem?_toList]; exact h2
        rw [this]
        rfl
      rw [hdrop, List.filter_append, List.length_append, h5]
      show (bi (loud o.op) (st'.heap :: (S q).stages) (S q).stages).drop _ = _
      cases hlo : loud o.op with
      | true =>
        simp only [hl, hlo, List.filter_cons_of_pos, List.filter_nil, List.length_cons, List.length_nil]
        exact hih
      | false =>
        have : ([i] : List Nat).filter (isLoud ops.toList) = [] := by simp [hl, hlo]
        rw [this]
        exact hih
    · have : p = q + 1 := by omega
      subst this
      have : ((is.take (q + 1)).drop (q + 1)) = [] := by
        rw [List.drop_eq_nil_iff]
        simp
        omega
      rw [this]
      rfl

/-- What stands ahead of whatever is gone is gone. -/
def Closed (ops : Array Oper) (C : Nat → Prop) : Prop := ∀ i, C i → ∀ j, bit (setAt (befOf ops) i) j = true → C j

theorem DrawCtx.apart (c : DrawCtx E nt rx fr ops is S n) {i j : Nat} {oi oj : Oper} (hi : ops[i]? = some oi) (hj : ops[j]? = some oj) (hne : i ≠ j) :
    (∀ d, oj.dst = some d → oi.dst ≠ some d) ∧ (∀ t, oj.dst = some t → t ∈ readsOf (dstsOf ops.toList) oi → bit (setAt (befOf ops) i) j = true ∨ bit (setAt (befOf ops) j) i = true) := by
  have hi' : ops.toList[i]? = some oi := by rw [Array.getElem?_toList]; exact hi
  have hj' : ops.toList[j]? = some oj := by rw [Array.getElem?_toList]; exact hj
  rcases Nat.lt_or_ge j i with h | h
  · have := raceFree_ok c.race hi' hj' h
    exact ⟨this.1, fun t h1 h2 => .inl (this.2.1 t h1 h2)⟩
  · have := raceFree_ok c.race hj' hi' (by omega)
    exact ⟨fun d h1 h2 => this.1 d h2 h1, fun t h1 h2 => .inr (this.2.2 t h2 h1)⟩

/-- Whatever lays what an operation reads, and is no later in the plan, is gone when the operation is at hand; whatever is later is not. -/
theorem DrawCtx.writer (c : DrawCtx E nt rx fr ops is S n) {C : Nat → Prop} (hC : Closed ops C) {q p i j t : Nat} {oi oj : Oper} (hq : is[q]? = some i) (hi : ops[i]? = some oi) (hp : is[p]? = some j) (hj : ops[j]? = some oj) (hpq : p ≠ q)
    (hready : ∀ j, bit (setAt (befOf ops) i) j = true → C j) (hnot : ¬ C i) (hr : t ∈ readsOf (dstsOf ops.toList) oi) (hw : oj.dst = some t) : (p < q ∧ C j) ∨ (q < p ∧ ¬ C j) := by
  have hne : i ≠ j := fun h => hpq (c.inj hp (h ▸ hq))
  obtain ⟨_, _, _, hbi, _⟩ := c.pos q i hq
  obtain ⟨_, _, _, hbj, _⟩ := c.pos p j hp
  rcases (c.apart hi hj hne).2 t hw hr with h | h
  · obtain ⟨p', h1, h2⟩ := mem_take.1 (hbi j h)
    have : p' = p := c.inj h2 hp
    exact .inl ⟨by omega, hready j h⟩
  · obtain ⟨q', h1, h2⟩ := mem_take.1 (hbj i h)
    have : q' = q := c.inj h2 hq
    exact .inr ⟨by omega, fun hcj => hnot (hC j hcj i h)⟩

end ctx

/-! ### The same values -/
theorem all2_eq {f : AV → AV → Bool} (hf : ∀ a b, f a b = true → a = b) : ∀ {xs ys : List AV}, all2 f xs ys = true → xs = ys
  | [], [], _ => rfl
  | [], _ :: _, h => by cases h
  | _ :: _, [], h => by cases h
  | x :: xs, y :: ys, h => by
    have h' : bi (f x y) (all2 f xs ys) false = true := h
    rw [bi_eq] at h'
    split at h'
    · rename_i h1; rw [hf x y h1, all2_eq hf h']
    · cases h'

theorem sameV_eq : ∀ (d : Nat) (x y : AV), sameV d x y = true → x = y
  | 0, _, _, h => by cases h
  | d + 1, x, y, h => by
    have ih := sameV_eq d
    unfold sameV at h
    split at h
    · simpa using h
    · simp only [andb_eq, kindEq_eq, intEq_eq, Bool.and_eq_true, decide_eq_true_eq] at h
      rw [h.1, h.2]
    · rw [bytesEq_eq] at h
      simp only [decide_eq_true_eq] at h
      rw [h]
    · rfl
    · simp only [andb_eq, Bool.and_eq_true] at h
      rw [Nat.eq_of_beq_eq_true h.1, Nat.eq_of_beq_eq_true h.2]
    · rfl
    · rename_i a o n c b q m e
      simp only [andb_eq, Bool.and_eq_true] at h
      obtain ⟨⟨h1, h2⟩, h3, h4⟩ := h
      have : c = e := by
        unfold sameCap at h4
        split at h4
        · rw [Nat.eq_of_beq_eq_true h4]
        · rw [Nat.eq_of_beq_eq_true h4]
        · cases h4
      rw [Nat.eq_of_beq_eq_true h1, Nat.eq_of_beq_eq_true h2, Nat.eq_of_beq_eq_true h3, this]
    · rfl
    · rw [Nat.eq_of_beq_eq_true h]
    · rfl
    · rfl
    · simp only [andb_eq, Bool.and_eq_true] at h
      rw [Nat.eq_of_beq_eq_true h.1, ih _ _ h.2]
    · simp only [andb_eq, Bool.and_eq_true] at h
      rw [Nat.eq_of_beq_eq_true h.1, all2_eq ih h.2.1, all2_eq ih h.2.2]
    · rw [all2_eq ih h]
    · rw [all2_eq ih h]
    · cases h

theorem agree_eq (q : QF) (lc : Lc) (fr : Tr AV) (k : Nat) (v : AV) : ∀ (older : Nat) (l : List Heap), agree q lc fr k v older l = true → ∀ c, c < older → ∀ h, l[c]? = some h → q lc fr h k = .val v
  | 0, _, _, c, hc, _, _ => by omega
  | older + 1, [], h, _, _, _, _ => by cases h
  | older + 1, x :: l, h, c, hc, y, hy => by
    unfold agree at h
    split at h
    · rename_i u hu
      rw [bi_eq] at h
      split at h
      · rename_i hs
        have := sameV_eq 5 u v hs
        subst this
        cases c with
        | zero => simp only [List.getElem?_cons_zero, Option.some.injEq] at hy; subst hy; exact hu
        | succ c => exact agree_eq q lc fr k u older l h c (by omega) y (by simpa using hy)
      · cases h
    · cases h

end Go.Proofs.YtbcnedhhebjhdaaGreatDoor.Fa

/-
  Regions that draw their order: what is known while the model goes through them in an order of its own; a quiet operation.
-/
namespace Go.Proofs.YtbcnedhhebjhdaaGreatDoor.Fa

/-- The ids that are there. -/
def Av (S : Nat → AS) (is : List Nat) (C : Nat → Prop) (K j : Nat) : Prop := j < (S K).st.next ∨ ∃ q i, K ≤ q ∧ is[q]? = some i ∧ C i ∧ (S q).st.next ≤ j ∧ j < (S (q + 1)).st.next
def AvB (S : Nat → AS) (is : List Nat) (C : Nat → Prop) (K q j : Nat) : Prop := Av S is C K j ∧ j < (S (q + 1)).st.next

/-- A quiet operation that was done before the plan comes to it. -/
structure Early (fr : Tr AV) (is : List Nat) (S : Nat → AS) (w0 : World) (C : Nat → Prop) (K : Nat) (M : Nat → Prop) (ε : Env) (a : Act) (w : World) (q : Nat) (o : Oper) : Prop where
  quiet : loud o.op = false
  val : ∀ d v, o.dst = some d → (S (q + 1)).lc.get fr d = some v → a.tmps.getD d undef = g ε v ∧ okv (AvB S is C K q) ε v
  st : (¬ M q ∧ ((S (q + 1)).st = (S q).st ∨ (S (q + 1)).st = { heap := (S q).st.heap, next := Nat.succ (S q).st.next, um := (S q).st.um, defers := (S q).st.defers })) ∨
    (M q ∧ ∃ bl obj, (S (q + 1)).st = newBlk (S q).st bl ∧ w.heap[ε.blk (S q).st.next]? = some obj ∧ BlkOk (AvB S is C K q) ε (S q).st.next bl obj ∧ w0.heap.size ≤ ε.blk (S q).st.next ∧
      ∀ id x, (S K).st.heap.find id = some x → ε.blk id ≠ ε.blk (S q).st.next)

structure DSim (P : Program) (E : Env0) (nt mask : Nat) (b : Frame) (cs : List Frame) (fr : Tr AV) (ops : Array Oper) (is : List Nat) (S : Nat → AS) (n : Nat) (ε0 : Env) (st0 : St) (w0 : World) (C : Nat → Prop) (K : Nat) (M : Nat → Prop) (ε : Env) (a : Act) (w : World) : Prop where
  kn : K ≤ n
  pre : ∀ (q i : Nat), q < K → is[q]? = some i → C i
  inv : InvR (fun t => ∀ (q i : Nat) (o : Oper), K ≤ q → is[q]? = some i → C i → ops[i]? = some o → o.dst ≠ some t) P E nt mask b cs ε (S K).lc fr (S K).st a w
  after : After ε0 st0.heap st0.next w0 ε (S K).st.heap (S K).st.next w
  head : ∃ h l, (S K).stages = h :: l ∧ ∀ id x, h.find id = some x → (S K).st.heap.find id = some x
  en : ∀ (q i : Nat), K ≤ q → is[q]? = some i → C i → q < n
  early : ∀ (q i : Nat) (o : Oper), K ≤ q → is[q]? = some i → C i → ops[i]? = some o → Early fr is S w0 C K M ε a w q o
  minj : ∀ (p q i j : Nat), K ≤ p → K ≤ q → is[p]? = some i → is[q]? = some j → C i → C j → M p → M q → ε.blk (S p).st.next = ε.blk (S q).st.next → p = q

section sim
variable {P : Program} {E : Env0} {nt mask : Nat} {b : Frame} {cs : List Frame} {rx : Rx} {fr : Tr AV} {ops : Array Oper} {is : List Nat} {S : Nat → AS} {n : Nat} {ε0 : Env} {st0 : St} {w0 : World} {C : Nat → Prop} {K : Nat} {M : Nat → Prop} {ε : Env} {a : Act} {w : World}

/-- The writer of a temporary. -/
theorem DrawCtx.only (c : DrawCtx E nt rx fr ops is S n) {p q i j t : Nat} {oi oj : Oper} (hp : is[p]? = some i) (hi : ops[i]? = some oi) (hq : is[q]? = some j) (hj : ops[j]? = some oj) (h1 : oi.dst = some t) (h2 : oj.dst = some t) : p = q := by
  by_cases h : i = j
  · subst h; exact c.inj hp hq
  · exact absurd h1 ((c.apart hi hj h).1 t h2)

/-- What a quiet operation reads. -/
theorem DSim.reads (c : DrawCtx E nt rx fr ops is S n) (hC : Closed ops C) (d : DSim P E nt mask b cs fr ops is S n ε0 st0 w0 C K M ε a w) {q i : Nat} {o : Oper} (hK : K ≤ q) (hqn : q < n) (hq : is[q]? = some i) (ho : ops[i]? = some o)
    (hready : ∀ j, bit (setAt (befOf ops) i) j = true → C j) (hnot : ¬ C i) {t : Nat} (ht : t ∈ readsOf (dstsOf ops.toList) o) {v : AV} (hv : (S q).lc.get fr t = some v) :
    a.tmps.getD t undef = g ε v ∧ okv (fun j => Av S is C K j ∧ j < (S q).st.next) ε v := by
  by_cases hex : ∃ p j oj, p < q ∧ is[p]? = some j ∧ ops[j]? = some oj ∧ oj.dst = some t
  · obtain ⟨p, j, oj, hpq, hp, hj, hd⟩ := hex
    have hcj : C j := by
      rcases c.writer hC hq ho hp hj (by omega) hready hnot ht hd with h | h
      · exact h.2
      · omega
    have hlast : (S q).lc.get fr t = (S (p + 1)).lc.get fr t := c.lcSame (by omega) (by omega) fun p' i' o' h1 h2 h3 h4 h5 => by
      have := c.only hp hj h3 h4 hd h5
      omega
    rw [hlast] at hv
    rcases Nat.lt_or_ge p K with hlt | hge
    · have hk : (S K).lc.get fr t = (S (p + 1)).lc.get fr t := c.lcSame (by omega) d.kn fun p' i' o' h1 h2 h3 h4 h5 => by
        have := c.only hp hj h3 h4 hd h5
        omega
      obtain ⟨h1, h2⟩ := d.inv.reads t (fun q' i' o' h1 h2 _ h4 h5 => by have := c.only hp hj h2 h4 hd h5; omega) v (by rw [hk]; exact hv)
      exact ⟨h1, okv_agree (.refl _ _) (fun x hx => ⟨.inl hx, Nat.lt_of_lt_of_le hx (c.mono hK (by omega))⟩) v h2⟩
    · obtain ⟨h1, h2⟩ := (d.early p j oj hge hp hcj hj).val t v hd hv
      exact ⟨h1, okv_agree (.refl _ _) (fun x hx => ⟨hx.1, Nat.lt_of_lt_of_le hx.2 (c.mono (by omega) (by omega))⟩) v h2⟩
  · have hk : (S q).lc.get fr t = (S K).lc.get fr t := c.lcSame hK (by omega) fun p' i' o' h1 h2 h3 h4 h5 => hex ⟨p', i', o', h2, h3, h4, h5⟩
    rw [hk] at hv
    obtain ⟨h1, h2⟩ := d.inv.reads t (fun q' i' o' h1 h2 h3 h4 h5 => by
      rcases Nat.lt_trichotomy q' q with h | h | h
      · exact hex ⟨q', i', o', h, h2, h4, h5⟩
      · subst h
        rw [hq] at h2
        injection h2 with h2
        subst h2
        exact hnot h3
      · rcases c.writer hC hq ho h2 h4 (by omega) hready hnot ht h5 with h' | h'
        · omega
        · exact h'.2 h3) v hv
    exact ⟨h1, okv_agree (.refl _ _) (fun x hx => ⟨.inl hx, Nat.lt_of_lt_of_le hx (c.mono hK (by omega))⟩) v h2⟩

/-- What a quiet operation comes to. -/
theorem DSim.quietOut (c : DrawCtx E nt rx fr ops is S n) (hC : Closed ops C) (d : DSim P E nt mask b cs fr ops is S n ε0 st0 w0 C K M ε a w) {q i : Nat} {o : Oper} (hK : K ≤ q) (hqn : q < n) (hq : is[q]? = some i) (ho : ops[i]? = some o)
    (hready : ∀ j, bit (setAt (befOf ops) i) j = true → C j) (hnot : ¬ C i) (hl : loud o.op = false) (hstop : ∀ j, is[K]? = some j → ¬ C j) (cs' : List Frame) (k : List Item) (rest : List Nat) :
    ∃ lc' st' val w' ε', S (q + 1) = { stages := (S q).stages, lc := lc', st := st' } ∧ (S q).st.next ≤ st'.next ∧ SameOs w w' ∧ Agree (fun j => Av S is C K j ∧ j < (S q).st.next) ε ε' ∧
      (∀ dd v, o.dst = some dd → lc'.get fr dd = some v → val = g ε' v ∧ okv (fun j => (Av S is C K j ∧ j < (S q).st.next) ∨ ((S q).st.next ≤ j ∧ j < st'.next)) ε' v) ∧
      (((st' = (S q).st ∨ st' = { heap := (S q).st.heap, next := Nat.succ (S q).st.next, um := (S q).st.um, defers := (S q).st.defers }) ∧ w'.heap = w.heap) ∨
        ∃ bl obj, st' = newBlk (S q).st bl ∧ w'.heap = w.heap.push obj ∧ ε'.blk (S q).st.next = w.heap.size ∧ BlkOk (fun j => (Av S is C K j ∧ j < (S q).st.next) ∨ ((S q).st.next ≤ j ∧ j < st'.next)) ε' (S q).st.next bl obj) ∧
      step P (lone (b.atR a (.inRegion ops (i :: rest) :: k)) cs' w) = .next (lone (b.atR (a.put o.dst val) (.inRegion ops rest :: k)) cs' w') := by
  obtain ⟨lc', st', hstep, hle, hS⟩ := c.run q i o hqn hq ho
  have hrd : ∀ t ∈ readsOf (dstsOf ops.toList) o, ∀ v, (S q).lc.get fr t = some v → a.tmps.getD t undef = g ε v ∧ okv (fun j => Av S is C K j ∧ j < (S q).st.next) ε v := fun t ht v hv => d.reads c hC hK hqn hq ho hready hnot ht hv
  have hS' : S (q + 1) = { stages := (S q).stages, lc := lc', st := st' } := by
    rw [hS]
    unfold AS.on
    rw [hl]
    rfl
  have hreads : Reads (fun j => Av S is C K j ∧ j < (S q).st.next) ε (S q).lc fr a (opReads o.op) := fun t ht v hv => hrd t (guardReads_mem _ _ _ _ ht) v hv
  have hglob : GlobOk (fun j => Av S is C K j ∧ j < (S q).st.next) ε := d.inv.glob.agree (.refl _ _) fun x hx => ⟨.inl hx, Nat.lt_of_lt_of_le hx (c.mono hK (by omega))⟩
  have hsem := semAt_of b.roundOf a.eval o fun cl hcl => by
    rw [hcl] at hl
    cases hl
  have hstep' : orr (wanted (cOp E (dstsOf ops.toList) o) (S q).lc fr) (fun wb => bi wb (kindD rx (stepOf E ops is q i o) fr (S q).stages (S q).lc (S q).st) (.on (putLc o.dst .undef (S q).lc) (S q).st)) = .on lc' st' := hstep
  -- how a value ends
  have hend : ∀ (val : Value) (w' : World), (Region.wanted o (yielded ops a.tmps) = true ∧ (execOp a.eval o).run P w = .ok (.value val) w') ∨ (Region.wanted o (yielded ops a.tmps) = false ∧ val = undef ∧ w' = w) →
      step P (lone (b.atR a (.inRegion ops (i :: rest) :: k)) cs' w) = .next (lone (b.atR (a.put o.dst val) (.inRegion ops rest :: k)) cs' w') := fun val w' h => by
    rcases h with ⟨h1, h2⟩ | ⟨h1, h2, h3⟩
    · exact stepO_value ho h1 (by rw [hsem]; exact h2)
    · subst h2; subst h3; exact stepO_unwanted ho h1
  -- what a look says
  have hqres : ∀ (qf : QF) (h : Heap), cKind E o.op = .quiet qf → Sim (fun j => Av S is C K j ∧ j < (S q).st.next) ε h.find w → QRes (fun j => Av S is C K j ∧ j < (S q).st.next) ε (S q).st.next w (qf (S q).lc fr h (S q).st.next) ((execOp a.eval o).run P w) := fun qf h hk hs =>
    quiet_ok (l := opReads o.op) ⟨d.inv.env, hglob, hs, hreads, fun hx => Nat.lt_irrefl _ hx.2⟩ o (fun t ht => ht) hk
  have hlc : ∀ (v : AV) (D : Nat → Prop), okv D ε v → ∀ dd u, o.dst = some dd → (putLc o.dst v (S q).lc).get fr dd = some u → g ε v = g ε u ∧ okv D ε u := fun v D hv dd u hdd hu => by
    rw [hdd] at hu
    have hu' : (Lc.cons dd v (S q).lc).get fr dd = some u := hu
    rw [Lc.get_cons, if_pos rfl] at hu'
    injection hu' with hu'
    subst hu'
    exact ⟨rfl, hv⟩
  have hlc2 : ∀ (v : AV) (D : Nat → Prop) (ε' : Env), okv D ε' v → ∀ dd u, o.dst = some dd → (putLc o.dst v (S q).lc).get fr dd = some u → g ε' v = g ε' u ∧ okv D ε' u := fun v D ε' hv dd u hdd hu => by
    rw [hdd] at hu
    have hu' : (Lc.cons dd v (S q).lc).get fr dd = some u := hu
    rw [Lc.get_cons, if_pos rfl] at hu'
    injection hu' with hu'
    subst hu'
    exact ⟨rfl, hv⟩
  have hplus : ∀ j, Plus (fun j => Av S is C K j ∧ j < (S q).st.next) (S q).st.next j → ((Av S is C K j ∧ j < (S q).st.next) ∨ ((S q).st.next ≤ j ∧ j < Nat.succ (S q).st.next)) := fun j hj => by
    rcases hj with hj | hj
    · exact .inl hj
    · exact .inr ⟨by omega, by omega⟩
  cases hwd : wanted (cOp E (dstsOf ops.toList) o) (S q).lc fr with
  | none => rw [hwd] at hstep'; cases hstep'
  | some wb =>
    have hw := wanted_ok (a := a) (ε := ε) (fun t ht v hv => (hrd t (guardReads_nil _ _ _ _ ht) v hv).1) hwd
    rw [hwd] at hstep'
    cases wb with
    | false =>
      have h1 : RO.on (putLc o.dst .undef (S q).lc) (S q).st = .on lc' st' := hstep'
      injection h1 with h1 h2
      subst h1; subst h2
      refine ⟨_, _, undef, w, ε, hS', Nat.le_refl _, .refl _, .refl _ _, fun dd v hdd hv => ?_, .inl ⟨.inl rfl, rfl⟩, hend undef w (.inr ⟨hw, rfl, rfl⟩)⟩
      have := hlc .undef (fun j => (Av S is C K j ∧ j < (S q).st.next) ∨ ((S q).st.next ≤ j ∧ j < (S q).st.next)) (okv_undef _ _) dd v hdd hv
      rw [g_undef] at this
      exact this
    | true =>
      have h1 : kindD rx (stepOf E ops is q i o) fr (S q).stages (S q).lc (S q).st = .on lc' st' := hstep'
      rcases quiet_kind (E := E) hl with hk | ⟨qf, hk⟩ | ⟨u, hk⟩
      · have hk' : (stepOf E ops is q i o).op.kind = .bad := hk
        unfold kindD at h1
        rw [hk'] at h1
        cases h1
      · have hk' : (stepOf E ops is q i o).op.kind = .quiet qf := hk
        unfold kindD at h1
        rw [hk'] at h1
        have h2 : quietD qf o.dst (stepOf E ops is q i o).older fr (S q).stages (S q).lc (S q).st = .on lc' st' := h1
        have hnilsim : Sim (fun j => Av S is C K j ∧ j < (S q).st.next) ε (Tr.nil : Heap).find w := ⟨fun id x hx => (by cases hx), fun id x hx => (by cases hx), fun i j x y hx => (by cases hx)⟩
        have hres := hqres qf .nil hk hnilsim
        unfold quietD at h2
        cases hqn' : qf (S q).lc fr .nil (S q).st.next with
        | fail =>
          rw [hqn'] at h2
          have h3 : lookD qf o.dst (stepOf E ops is q i o).older fr (S q).stages (S q).lc (S q).st = .on lc' st' := h2
          obtain ⟨hh, ll, hstk, hsub⟩ := d.head
          -- the memory of the stage at hand is one of those that were looked at
          have hdrop := c.drop (p := K) (q := q) hK (by omega)
          have hcount : (((is.take q).drop K).filter (isLoud ops.toList)).length ≤ (stepOf E ops is q i o).older := by
            refine countW_ge _ _ _ (by
              rw [List.length_reverse]
              have : (is.take q) = (is.take q).take K ++ (is.take q).drop K := (List.take_append_drop K _).symm
              rw [this, List.filter_append, List.length_append]
              simp only [List.take_append_drop]
              omega) fun j hj x hx => ?_
            have hsplit : ((is.take q).filter (isLoud ops.toList)).reverse = (((is.take q).drop K).filter (isLoud ops.toList)).reverse ++ (((is.take q).take K).filter (isLoud ops.toList)).reverse := by
              rw [← List.reverse_append, ← List.filter_append, List.take_append_drop]
            rw [hsplit, List.getElem?_append_left (by rw [List.length_reverse]; exact hj)] at hx
            have hmem : x ∈ ((is.take q).drop K).filter (isLoud ops.toList) := by
              have := List.mem_of_getElem? hx
              simpa using this
            rw [List.mem_filter] at hmem
            obtain ⟨hm1, hm2⟩ := hmem
            obtain ⟨p, hp⟩ := List.mem_iff_getElem?.1 hm1
            rw [List.getElem?_drop, List.getElem?_take] at hp
            split at hp
            · rename_i hlt
              cases hbx : bit (setAt (befOf ops) i) x with
              | false => rfl
              | true =>
                exfalso
                have hcx := hready x hbx
                obtain ⟨ox, hox, _, _, hlx⟩ := c.pos (K + p) x hp
                have hloud : loud ox.op = true := by
                  unfold isLoud at hm2
                  have : ops.toList[x]? = some ox := by rw [Array.getElem?_toList]; exact hox
                  rw [this] at hm2
                  exact hm2
                have hKn : K < n := by omega
                obtain ⟨iK, oK, hiK, _⟩ := c.at hKn
                rcases Nat.eq_zero_or_pos p with hp0 | hp0
                · subst hp0
                  rw [Nat.add_zero] at hp
                  exact hstop x hp hcx
                · exact hstop iK hiK (hC x hcx iK (hlx hloud iK (mem_take.2 ⟨K, by omega, hiK⟩)))
            · cases hp
          have hget : (S q).stages[(((is.take q).drop K).filter (isLoud ops.toList)).length]? = some hh := by
            have : ((S q).stages.drop (((is.take q).drop K).filter (isLoud ops.toList)).length)[0]? = some hh := by rw [hdrop, hstk]; rfl
            rw [List.getElem?_drop, Nat.add_zero] at this
            exact this
          have hsim : Sim (fun j => Av S is C K j ∧ j < (S q).st.next) ε hh.find w := (d.inv.sim.less hsub).agree (.refl _ _) fun x hx => ⟨.inl hx, Nat.lt_of_lt_of_le hx (c.mono hK (by omega))⟩
          have hlook : ∃ v, qf (S q).lc fr hh (S q).st.next = .val v ∧ lc' = putLc o.dst v (S q).lc ∧ st' = (S q).st := by
            unfold lookD at h3
            split at h3
            · cases h3
            · rename_i h0 l0 hst0
              split at h3
              · rename_i v hv
                rw [bi_eq] at h3
                split at h3
                · rename_i hag
                  injection h3 with h4 h5
                  refine ⟨v, ?_, h4.symm, h5.symm⟩
                  rw [hst0] at hget
                  cases hcnt : (((is.take q).drop K).filter (isLoud ops.toList)).length with
                  | zero =>
                    rw [hcnt] at hget
                    simp only [List.getElem?_cons_zero, Option.some.injEq] at hget
                    rw [← hget]
                    exact hv
                  | succ m =>
                    rw [hcnt] at hget hcount
                    simp only [List.getElem?_cons_succ] at hget
                    exact agree_eq qf (S q).lc fr (S q).st.next v _ l0 hag m (by omega) hh hget
                · cases h3
              · cases h3
          obtain ⟨v, hv, h4, h5⟩ := hlook
          have hres2 := hqres qf hh hk hsim
          rw [hv] at hres2
          obtain ⟨w', h6, h7, h8, h9⟩ := hres2
          subst h4; subst h5
          exact ⟨_, _, g ε v, w', ε, hS', Nat.le_refl _, h8, .refl _ _, hlc v _ (okv_agree (.refl _ _) (fun x hx => .inl hx) v h9), .inl ⟨.inl rfl, h7⟩, hend _ w' (.inl ⟨hw, h6⟩)⟩
        | val v =>
          rw [hqn'] at h2 hres
          have h3 : RO.on (putLc o.dst v (S q).lc) (S q).st = .on lc' st' := h2
          injection h3 with h4 h5
          obtain ⟨w', h6, h7, h8, h9⟩ := hres
          subst h4; subst h5
          exact ⟨_, _, g ε v, w', ε, hS', Nat.le_refl _, h8, .refl _ _, hlc v _ (okv_agree (.refl _ _) (fun x hx => .inl hx) v h9), .inl ⟨.inl rfl, h7⟩, hend _ w' (.inl ⟨hw, h6⟩)⟩
        | made v bl =>
          rw [hqn'] at h2 hres
          have h3 : RO.on (putLc o.dst v (S q).lc) (newBlk (S q).st bl) = .on lc' st' := h2
          injection h3 with h4 h5
          obtain ⟨w', obj, ε', h6, h7, h8, h9, h10, h11, h12⟩ := hres
          subst h4; subst h5
          refine ⟨_, _, g ε' v, w', ε', hS', Nat.le_succ _, h8, h9, hlc2 v _ ε' (okv_agree (.refl _ _) hplus v h11), .inr ⟨bl, obj, rfl, h7, h10, h12.agree (.refl _ _) hplus ?_⟩, hend _ w' (.inl ⟨hw, h6⟩)⟩
          exact .inr rfl
        | resv v =>
          rw [hqn'] at h2 hres
          have h3 : RO.on (putLc o.dst v (S q).lc) { heap := (S q).st.heap, next := Nat.succ (S q).st.next, um := (S q).st.um, defers := (S q).st.defers } = .on lc' st' := h2
          injection h3 with h4 h5
          obtain ⟨w', ε', h6, h7, h8, h9, h11⟩ := hres
          subst h4; subst h5
          exact ⟨_, _, g ε' v, w', ε', hS', Nat.le_succ _, h8, h9, hlc2 v _ ε' (okv_agree (.refl _ _) hplus v h11), .inl ⟨.inr rfl, h7⟩, hend _ w' (.inl ⟨hw, h6⟩)⟩
      · have hk' : (stepOf E ops is q i o).op.kind = .same u := hk
        unfold kindD at h1
        rw [hk'] at h1
        have h3 : RO.on (putAs o.dst u (S q).lc) (S q).st = .on lc' st' := h1
        injection h3 with h4 h5
        subst h4; subst h5
        rcases other_inv (E := E) (op := o.op) (by rw [hk]; rfl) with ⟨x, hx, h2⟩ | ⟨cl, f, h1, h2, h3⟩ | ⟨cl, f, h1, h2, h3⟩ | ⟨x, h1, h3⟩ | ⟨cl, h1, h2, h3⟩
        · rw [hk] at h2
          cases x with
          | tmp t =>
            injection h2 with h2
            subst h2
            have hu0 : u ∈ readsOf (dstsOf ops.toList) o := guardReads_mem _ _ _ _ (by rcases hx with hx | hx <;> rw [hx] <;> exact List.mem_cons_self)
            refine ⟨_, _, a.tmps.getD u undef, w, ε, hS', Nat.le_refl _, .refl _, .refl _ _, fun dd v hdd hv => ?_, .inl ⟨.inl rfl, rfl⟩, hend _ w (.inl ⟨hw, ?_⟩)⟩
            · rw [hdd] at hv
              have hv' : (Lc.alias dd u (S q).lc).get fr dd = some v := hv
              rw [Lc.get_alias, if_pos rfl] at hv'
              obtain ⟨h6, h7⟩ := hrd u hu0 v hv'
              exact ⟨h6, okv_agree (.refl _ _) (fun x hx => .inl hx) v h7⟩
            · rcases hx with hx | hx <;> simp only [execOp, hx] <;> rfl
          | _ => cases h2
        all_goals (rw [hk] at h3; cases h3)

end sim
end Go.Proofs.YtbcnedhhebjhdaaGreatDoor.Fa

/-
  Regions that draw their order: one operation more; the plan comes on.
-/
namespace Go.Proofs.YtbcnedhhebjhdaaGreatDoor.Fa

theorem Sim.pers {D : Nat → Prop} {ε : Env} {h : Nat → Option ABlk} {w w' : World} (s : Sim D ε h w) (hp : ∀ (k : Nat) x, w.heap[k]? = some x → w'.heap[k]? = some x) : Sim D ε h w' :=
  ⟨s.there, fun id b hb => by obtain ⟨x, hx, hb'⟩ := s.obj id b hb; exact ⟨x, hp _ _ hx, hb'⟩, s.inj⟩

/-- Blocks that nobody tracks come behind the others. -/
theorem After.aside {ε ε' : Env} {h : Heap} {n : Nat} {w w' : World} (hs : Sim (Dn n) ε h.find w) (ha : Agree (Dn n) ε ε') (hp : ∀ (k : Nat) x, w.heap[k]? = some x → w'.heap[k]? = some x) (hsz : w.heap.size ≤ w'.heap.size) (hos : SameOs w w') : After ε h n w ε' h n w' where
  le := Nat.le_refl _
  agree := ha
  sim := (hs.agree ha fun _ hi => hi).pers hp
  os := hos
  size := hsz
  frame k hk _ := by
    obtain ⟨x, hx⟩ : ∃ x, w.heap[k]? = some x := ⟨w.heap[k], Array.getElem?_eq_getElem hk⟩
    rw [hx, hp k x hx]
  orig id x hx := .inr ⟨id, x, hx, fun h => h, (ha id (hs.there id x hx)).1.symm⟩

/-- Another reading that agrees. -/
theorem After.env {ε ε' ε2 : Env} {h h' : Heap} {n n' : Nat} {w w' : World} (a : After ε h n w ε' h' n' w') (ha : Agree (Dn n') ε' ε2) : After ε h n w ε2 h' n' w' where
  le := a.le
  agree := a.agree.trans ha fun i hi => Nat.lt_of_lt_of_le hi a.le
  sim := a.sim.agree ha fun _ hi => hi
  os := a.os
  size := a.size
  frame := a.frame
  orig id x hx := by
    rcases a.orig id x hx with h | ⟨id0, x0, h0, hr, he⟩
    · exact .inl (by rw [(ha id (a.sim.there id x hx)).1]; exact h)
    · exact .inr ⟨id0, x0, h0, hr, by rw [(ha id (a.sim.there id x hx)).1]; exact he⟩

theorem InvR.env2 {R : Nat → Prop} {P : Program} {E : Env0} {nt mask : Nat} {b : Frame} {cs : List Frame} {ε ε' : Env} {lc : Lc} {fr : Tr AV} {st : St} {a : Act} {w : World} (h : InvR R P E nt mask b cs ε lc fr st a w) (ha : Agree (Dn st.next) ε ε') : InvR R P E nt mask b cs ε' lc fr st a w where
  env := h.env
  glob := h.glob.agree ha fun _ hi => hi
  sim := h.sim.agree ha fun _ hi => hi
  reads t ht v hv := by
    obtain ⟨h1, h2⟩ := h.reads t ht v hv
    exact ⟨by rw [h1, g_agree ha v h2], okv_agree ha (fun _ hi => hi) v h2⟩
  size := h.size
  dom := h.dom
  defs := h.defs.agree ha fun _ hi => hi
  um := h.um.agree ha fun _ hi => hi

/-- A block that was there already is tracked from here on. -/
theorem After.reveal {ε ε' : Env} {h h' : Heap} {n n' : Nat} {w w' : World} (a : After ε h n w ε' h' n' w') {bl : ABlk} {obj : Obj} (ho : w'.heap[ε'.blk n']? = some obj) (hb : BlkOk (Dn (n' + 1)) ε' n' bl obj) (hsz : w.heap.size ≤ ε'.blk n')
    (hne : ∀ id x, h'.find id = some x → ε'.blk id ≠ ε'.blk n') : After ε h n w ε' (h'.set n' (some bl)) (n' + 1) w' where
  le := Nat.le_succ_of_le a.le
  agree := a.agree
  sim := by
    have hs' := a.sim.agree (D' := Dn (n' + 1)) (.refl _ _) fun i hi => Nat.lt_succ_of_lt hi
    refine ⟨fun i c hc => ?_, fun i c hc => ?_, fun i j c d hc hd he => ?_⟩
    · rw [Tr.find_set] at hc
      split at hc
      · rename_i h1; subst h1; exact Nat.lt_succ_self _
      · exact hs'.there i c hc
    · rw [Tr.find_set] at hc
      split at hc
      · rename_i h1
        subst h1
        injection hc with hc
        subst hc
        exact ⟨obj, ho, hb⟩
      · exact hs'.obj i c hc
    · rw [Tr.find_set] at hc hd
      split at hc
      · rename_i h1
        subst h1
        split at hd
        · rename_i h2; exact h2
        · exact absurd he.symm (hne j d hd)
      · split at hd
        · rename_i h2; subst h2; exact absurd he (hne i c hc)
        · exact hs'.inj i j c d hc hd he
  os := a.os
  size := a.size
  frame := a.frame
  orig i x hx := by
    rw [Tr.find_set] at hx
    split at hx
    · rename_i h1; subst h1; exact .inl hsz
    · exact a.orig i x hx

section sim
variable {P : Program} {E : Env0} {nt mask : Nat} {b : Frame} {cs : List Frame} {rx : Rx} {fr : Tr AV} {ops : Array Oper} {is : List Nat} {S : Nat → AS} {n : Nat} {ε0 : Env} {st0 : St} {w0 : World} {C : Nat → Prop} {K : Nat} {M : Nat → Prop} {ε : Env} {a : Act} {w : World}

theorem getD_put {a : Act} {dst : Option Nat} {t : Nat} {v : Value} (h : dst ≠ some t) : (a.put dst v).tmps.getD t undef = a.tmps.getD t undef := by
  cases dst with
  | none => rfl
  | some d =>
    have hne : d ≠ t := fun he => h (by rw [he])
    rw [put_tmps]
    simp only [Array.getD_eq_getD_getElem?]
    rw [Array.getElem?_setIfInBounds_ne hne]

/-- The plan comes to a step that was done. -/
theorem DSim.adv (c : DrawCtx E nt rx fr ops is S n) (d : DSim P E nt mask b cs fr ops is S n ε0 st0 w0 C K M ε a w) {i : Nat} (hq : is[K]? = some i) (hci : C i) :
    DSim P E nt mask b cs fr ops is S n ε0 st0 w0 C (K + 1) M ε a w ∧ (S (K + 1)).st.um = (S K).st.um := by
  have hKn := d.en K i (Nat.le_refl _) hq hci
  obtain ⟨o, ho, _⟩ := c.pos K i hq
  have he := d.early K i o (Nat.le_refl _) hq hci ho
  have hle : (S K).st.next ≤ (S (K + 1)).st.next := c.step hKn
  obtain ⟨lc', st', hstep, _, hS⟩ := c.run K i o hKn hq ho
  have hshape := stepD_step (fr := fr) (lc := (S K).lc) (st := (S K).st) rx (stepOf E ops is K i o) (S K).stages
  rw [hstep] at hshape
  have hshape : LcStep o.dst (S K).lc (S (K + 1)).lc := by rw [hS]; exact hshape
  have hstages : (S (K + 1)).stages = (S K).stages := by
    rw [hS]
    unfold AS.on
    rw [he.quiet]
    rfl
  -- the ids that are there are the same
  have hav : ∀ j, Av S is C K j ↔ Av S is C (K + 1) j := fun j => by
    constructor
    · rintro (h | ⟨p, ip, h1, h2, h3, h4, h5⟩)
      · exact .inl (Nat.lt_of_lt_of_le h hle)
      · rcases Nat.lt_or_ge K p with h | h
        · exact .inr ⟨p, ip, h, h2, h3, h4, h5⟩
        · have : p = K := by omega
          subst this
          exact .inl h5
    · rintro (h | ⟨p, ip, h1, h2, h3, h4, h5⟩)
      · rcases Nat.lt_or_ge j (S K).st.next with h' | h'
        · exact .inl h'
        · exact .inr ⟨K, i, Nat.le_refl _, hq, hci, h', h⟩
      · exact .inr ⟨p, ip, by omega, h2, h3, h4, h5⟩
  have havb : ∀ p, AvB S is C K p = AvB S is C (K + 1) p := fun p => by
    funext j
    apply propext
    unfold AvB
    rw [hav]
  have hum : (S (K + 1)).st.um = (S K).st.um ∧ (S (K + 1)).st.defers = (S K).st.defers := by
    rcases he.st with ⟨_, h | h⟩ | ⟨_, bl, obj, h, _⟩
    · rw [h]; exact ⟨rfl, rfl⟩
    · rw [h]; exact ⟨rfl, rfl⟩
    · rw [h]; exact ⟨rfl, rfl⟩
  have hafter : After ε0 st0.heap st0.next w0 ε (S (K + 1)).st.heap (S (K + 1)).st.next w := by
    rcases he.st with ⟨_, h | h⟩ | ⟨_, bl, obj, h, h1, h2, h3, h4⟩
    · rw [h]; exact d.after
    · rw [h]; exact d.after.trans (After.taken d.inv.sim (.refl _ _) rfl (.refl _))
    · rw [h]
      refine d.after.reveal h1 (h2.agree (.refl _ _) (fun j hj => ?_) ?_) h3 h4
      · have := hj.2
        rw [h] at this
        exact this
      · refine ⟨.inr ⟨K, i, Nat.le_refl _, hq, hci, Nat.le_refl _, ?_⟩, ?_⟩ <;> rw [h] <;> exact Nat.lt_succ_self _
  refine ⟨⟨hKn, fun p j hp hj => ?_, ⟨d.inv.env, d.inv.glob.agree (.refl _ _) (Dn_le hle), hafter.sim, fun t ht v hv => ?_, d.inv.size, d.inv.dom, by rw [hum.2]; exact d.inv.defs.agree (.refl _ _) (Dn_le hle), by rw [hum.1]; exact d.inv.um.agree (.refl _ _) (Dn_le hle)⟩, hafter, ?_, fun p j hp hj hc => d.en p j (by omega) hj hc, fun p j oj hp hj hc hoj => ?_, fun p p' j j' hp hp' => d.minj p p' j j' (by omega) (by omega)⟩, hum.1⟩
  · rcases Nat.lt_or_ge p K with h | h
    · exact d.pre p j h hj
    · have : p = K := by omega
      subst this
      rw [hq] at hj
      injection hj with hj
      subst hj
      exact hci
  · by_cases hd : o.dst = some t
    · obtain ⟨h1, h2⟩ := he.val t v hd hv
      exact ⟨h1, okv_agree (.refl _ _) (fun x hx => hx.2) v h2⟩
    · rw [hshape.get hd] at hv
      obtain ⟨h1, h2⟩ := d.inv.reads t (fun p j oj hp hj hc hoj => by
        rcases Nat.lt_or_ge K p with h | h
        · exact ht p j oj h hj hc hoj
        · have : p = K := by omega
          subst this
          rw [hq] at hj
          injection hj with hj
          subst hj
          rw [ho] at hoj
          injection hoj with hoj
          subst hoj
          exact hd) v hv
      exact ⟨h1, okv_agree (.refl _ _) (Dn_le hle) v h2⟩
  · obtain ⟨h, l, h1, h2⟩ := d.head
    refine ⟨h, l, by rw [hstages]; exact h1, fun id x hx => ?_⟩
    have hx2 := h2 id x hx
    rcases he.st with ⟨_, h | h⟩ | ⟨_, bl, obj, h, _⟩
    · rw [h]; exact hx2
    · rw [h]; exact hx2
    · rw [h]
      show ((S K).st.heap.set (S K).st.next (some bl)).find id = some x
      have hid : id < (S K).st.next := d.inv.sim.there id x hx2
      rw [Tr.find_set_other _ (by omega)]
      exact hx2
  · have hep := d.early p j oj (by omega) hj hc hoj
    refine ⟨hep.quiet, by rw [← havb]; exact hep.val, ?_⟩
    rcases hep.st with h | ⟨hm, bl, obj, h1, h2, h3, h4, h5⟩
    · exact .inl h
    · refine .inr ⟨hm, bl, obj, h1, h2, by rw [← havb]; exact h3, h4, fun id x hx => ?_⟩
      rcases he.st with ⟨_, h | h⟩ | ⟨hmK, bl', obj', h, _⟩
      · rw [h] at hx; exact h5 id x hx
      · rw [h] at hx; exact h5 id x hx
      · rw [h] at hx
        have hx' : ((S K).st.heap.set (S K).st.next (some bl')).find id = some x := hx
        rw [Tr.find_set] at hx'
        split at hx'
        · rename_i hid
          subst hid
          intro hee
          have := d.minj K p i j (Nat.le_refl _) (by omega) hq hj hci hc hmK hm hee
          omega
        · exact h5 id x hx'

/-- The plan comes as far as it can. -/
theorem DSim.settle (c : DrawCtx E nt rx fr ops is S n) : ∀ (m K : Nat), n - K ≤ m → DSim P E nt mask b cs fr ops is S n ε0 st0 w0 C K M ε a w →
    ∃ K', DSim P E nt mask b cs fr ops is S n ε0 st0 w0 C K' M ε a w ∧ (S K').st.um = (S K).st.um ∧ ∀ j, is[K']? = some j → ¬ C j := by
  intro m
  induction m with
  | zero =>
    intro K hm d
    refine ⟨K, d, rfl, fun j hj hc => ?_⟩
    have := d.en K j (Nat.le_refl _) hj hc
    omega
  | succ m ih =>
    intro K hm d
    by_cases h : ∃ j, is[K]? = some j ∧ C j
    · obtain ⟨j, hj, hc⟩ := h
      have hn := d.en K j (Nat.le_refl _) hj hc
      obtain ⟨d', hu⟩ := d.adv c hj hc
      obtain ⟨K', h1, h2, h3⟩ := ih (K + 1) (by omega) d'
      exact ⟨K', h1, h2.trans hu, h3⟩
    · exact ⟨K, d, rfl, fun j hj hc => h ⟨j, hj, hc⟩⟩

/-- A quiet operation more. -/
theorem DSim.quietStep (c : DrawCtx E nt rx fr ops is S n) (hC : Closed ops C) (d : DSim P E nt mask b cs fr ops is S n ε0 st0 w0 C K M ε a w) {q i : Nat} {o : Oper} (hK : K ≤ q) (hqn : q < n) (hq : is[q]? = some i) (ho : ops[i]? = some o)
    (hready : ∀ j, bit (setAt (befOf ops) i) j = true → C j) (hnot : ¬ C i) (hl : loud o.op = false) (hstop : ∀ j, is[K]? = some j → ¬ C j) (k : List Item) (rest : List Nat) :
    ∃ ε' a' w' M', DSim P E nt mask b cs fr ops is S n ε0 st0 w0 (fun x => C x ∨ x = i) K M' ε' a' w' ∧
      step P (lone (b.atR a (.inRegion ops (i :: rest) :: k)) (csAt ε (S K).st.um cs) w) = .next (lone (b.atR a' (.inRegion ops rest :: k)) (csAt ε' (S K).st.um cs) w') := by
  obtain ⟨lc', st', val, w', ε1, hS, hle, hos, hag, hval, hst, hstep⟩ := d.quietOut c hC hK hqn hq ho hready hnot hl hstop (csAt ε (S K).st.um cs) k rest
  have hnext : (S (q + 1)).st.next = st'.next := by rw [hS]
  have hlcq : (S (q + 1)).lc = lc' := by rw [hS]
  -- the reading behind
  have havN : ∀ j, Av S is C K j → ¬ ((S q).st.next ≤ j ∧ j < st'.next) := fun j hj hr => by
    rcases hj with hj | ⟨p, ip, h1, h2, h3, h4, h5⟩
    · have := c.mono hK (by omega : q ≤ n); omega
    · have hpn := d.en p ip h1 h2 h3
      rcases Nat.lt_trichotomy p q with h | h | h
      · have := c.mono (p := p + 1) (q := q) (by omega) (by omega); omega
      · subst h
        rw [hq] at h2
        injection h2 with h2
        subst h2
        exact hnot h3
      · have := c.mono (p := q + 1) (q := p) (by omega) (by omega)
        rw [hnext] at this
        omega
  obtain ⟨ε', hε1, hε2⟩ : ∃ ε' : Env, (∀ j, ¬ ((S q).st.next ≤ j ∧ j < st'.next) → ε'.blk j = ε.blk j ∧ ε'.sft j = ε.sft j ∧ ε'.ext j = ε.ext j) ∧ (∀ j, ((S q).st.next ≤ j ∧ j < st'.next) → ε'.blk j = ε1.blk j ∧ ε'.sft j = ε1.sft j ∧ ε'.ext j = ε1.ext j) :=
    ⟨{ blk := fun j => if (S q).st.next ≤ j ∧ j < st'.next then ε1.blk j else ε.blk j, sft := fun j => if (S q).st.next ≤ j ∧ j < st'.next then ε1.sft j else ε.sft j, ext := fun j => if (S q).st.next ≤ j ∧ j < st'.next then ε1.ext j else ε.ext j },
      fun j hj => by simp only [if_neg hj, and_self], fun j hj => by simp only [if_pos hj, and_self]⟩
  have hA1 : Agree (Av S is C K) ε ε' := fun j hj => hε1 j (havN j hj)
  have hAD : Agree (Dn (S K).st.next) ε ε' := hA1.mono fun j hj => .inl hj
  have hA2 : Agree (fun j => (Av S is C K j ∧ j < (S q).st.next) ∨ ((S q).st.next ≤ j ∧ j < st'.next)) ε1 ε' := fun j hj => by
    rcases hj with hj | hj
    · obtain ⟨h1, h2, h3⟩ := hε1 j (havN j hj.1)
      obtain ⟨h4, h5, h6⟩ := hag j hj
      exact ⟨h1.trans h4.symm, h2.trans h5.symm, h3.trans h6.symm⟩
    · exact hε2 j hj
  have hav' : ∀ j, Av S is C K j → Av S is (fun x => C x ∨ x = i) K j := fun j hj => by
    rcases hj with hj | ⟨p, ip, h1, h2, h3, h4, h5⟩
    · exact .inl hj
    · exact .inr ⟨p, ip, h1, h2, .inl h3, h4, h5⟩
  have hDD : ∀ j, ((Av S is C K j ∧ j < (S q).st.next) ∨ ((S q).st.next ≤ j ∧ j < st'.next)) → AvB S is (fun x => C x ∨ x = i) K q j := fun j hj => by
    rcases hj with hj | hj
    · exact ⟨hav' j hj.1, by rw [hnext]; omega⟩
    · exact ⟨.inr ⟨q, i, hK, hq, .inr rfl, hj.1, by rw [hnext]; exact hj.2⟩, by rw [hnext]; exact hj.2⟩
  -- memory
  have hpers : ∀ (k : Nat) x, w.heap[k]? = some x → w'.heap[k]? = some x := fun k x hx => by
    rcases hst with ⟨_, h⟩ | ⟨bl, obj, _, h, _⟩
    · rw [h]; exact hx
    · rw [h, Array.getElem?_push, if_neg ?_]
      · exact hx
      · intro hk
        subst hk
        rw [Array.getElem?_eq_none (Nat.le_refl _)] at hx
        cases hx
  have hsz : w.heap.size ≤ w'.heap.size := by
    rcases hst with ⟨_, h⟩ | ⟨bl, obj, _, h, _⟩
    · rw [h]; exact Nat.le_refl _
    · rw [h]; simp
  have hlt : ∀ (k : Nat) x, w.heap[k]? = some x → k < w.heap.size := fun k x hx => by
    rcases Nat.lt_or_ge k w.heap.size with h | h
    · exact h
    · rw [Array.getElem?_eq_none h] at hx; cases hx
  have hafter : After ε0 st0.heap st0.next w0 ε' (S K).st.heap (S K).st.next w' := d.after.trans (After.aside d.inv.sim hAD hpers hsz hos)
  have hcsat : csAt ε' (S K).st.um cs = csAt ε (S K).st.um cs := csAt_agree d.inv.um hAD
  have hinv : InvR (fun t => ∀ (q' i' : Nat) (o' : Oper), K ≤ q' → is[q']? = some i' → (C i' ∨ i' = i) → ops[i']? = some o' → o'.dst ≠ some t) P E nt mask b cs ε' (S K).lc fr (S K).st (a.put o.dst val) w' := by
    refine ⟨d.inv.env, d.inv.glob.agree hAD fun _ h => h, hafter.sim, fun t ht v hv => ?_, ?_, d.inv.dom, by rw [put_defers]; exact d.inv.defs.agree hAD fun _ h => h, d.inv.um.agree hAD fun _ h => h⟩
    · have hne : o.dst ≠ some t := ht q i o hK hq (.inr rfl) ho
      obtain ⟨h1, h2⟩ := d.inv.reads t (fun q' i' o' h1 h2 h3 => ht q' i' o' h1 h2 (.inl h3)) v hv
      rw [getD_put hne, h1, g_agree hAD v h2]
      exact ⟨rfl, okv_agree hAD (fun _ h => h) v h2⟩
    · rw [put_tmps]
      cases o.dst with
      | none => exact d.inv.size
      | some dd => simp [d.inv.size]
  have hen : ∀ (q' i' : Nat), K ≤ q' → is[q']? = some i' → (C i' ∨ i' = i) → q' < n := fun q' i' h1 h2 h3 => by
    rcases h3 with h3 | h3
    · exact d.en q' i' h1 h2 h3
    · subst h3
      have : q' = q := c.inj h2 hq
      omega
  -- what was early already
  have hold : ∀ (M' : Nat → Prop) (q' i' : Nat) (o' : Oper), (M' q' ↔ M q') → K ≤ q' → is[q']? = some i' → C i' → ops[i']? = some o' → Early fr is S w0 (fun x => C x ∨ x = i) K M' ε' (a.put o.dst val) w' q' o' := fun M' q' i' o' hM h1 h2 h3 h4 => by
    have he := d.early q' i' o' h1 h2 h3 h4
    have hsub : ∀ j, AvB S is C K q' j → AvB S is (fun x => C x ∨ x = i) K q' j := fun j hj => ⟨hav' j hj.1, hj.2⟩
    have hAB : Agree (AvB S is C K q') ε ε' := hA1.mono fun j hj => hj.1
    refine ⟨he.quiet, fun dd v hdd hv => ?_, ?_⟩
    · have hne : o.dst ≠ some dd := fun hod => by
        have : q' = q := c.only h2 h4 hq ho hdd hod
        subst this
        rw [hq] at h2
        injection h2 with h2
        subst h2
        exact hnot h3
      obtain ⟨h5, h6⟩ := he.val dd v hdd hv
      rw [getD_put hne, h5, g_agree hAB v h6]
      exact ⟨rfl, okv_agree hAB hsub v h6⟩
    · rcases he.st with ⟨hm, h⟩ | ⟨hm, bl, obj, h5, h6, h7, h8, h9⟩
      · exact .inl ⟨fun h' => hm (hM.1 h'), h⟩
      · have hid : AvB S is C K q' (S q').st.next := by
          have hlt' : (S q').st.next < (S (q' + 1)).st.next := by rw [h5]; exact Nat.lt_succ_self _
          exact ⟨.inr ⟨q', i', h1, h2, h3, Nat.le_refl _, hlt'⟩, hlt'⟩
        have hb : ε'.blk (S q').st.next = ε.blk (S q').st.next := (hAB _ hid).1
        refine .inr ⟨hM.2 hm, bl, obj, h5, by rw [hb]; exact hpers _ _ h6, h7.agree hAB hsub hid, by rw [hb]; exact h8, fun id x hx => ?_⟩
        rw [hb, (hAD id (d.inv.sim.there id x hx)).1]
        exact h9 id x hx
  have hmold : ∀ (q' i' : Nat), K ≤ q' → is[q']? = some i' → C i' → M q' → ∃ obj, w.heap[ε.blk (S q').st.next]? = some obj ∧ ε'.blk (S q').st.next = ε.blk (S q').st.next := fun q' i' h1 h2 h3 hm => by
    obtain ⟨o', h4, _⟩ := c.pos q' i' h2
    rcases (d.early q' i' o' h1 h2 h3 h4).st with ⟨hm', _⟩ | ⟨_, bl, obj, h5, h6, _⟩
    · exact absurd hm hm'
    · have hlt' : (S q').st.next < (S (q' + 1)).st.next := by rw [h5]; exact Nat.lt_succ_self _
      exact ⟨obj, h6, (hA1 _ (.inr ⟨q', i', h1, h2, h3, Nat.le_refl _, hlt'⟩)).1⟩
  have hnewval : ∀ dd v, o.dst = some dd → (S (q + 1)).lc.get fr dd = some v → (a.put o.dst val).tmps.getD dd undef = g ε' v ∧ okv (AvB S is (fun x => C x ∨ x = i) K q) ε' v := fun dd v hdd hv => by
    rw [hlcq] at hv
    obtain ⟨h1, h2⟩ := hval dd v hdd hv
    have hlt' : dd < a.tmps.size := by rw [d.inv.size]; exact c.dlt i o dd ho hdd
    rw [put_tmps, hdd]
    simp only
    rw [getD_set hlt', if_pos rfl, h1, g_agree hA2 v h2]
    exact ⟨rfl, okv_agree hA2 hDD v h2⟩
  rcases hst with ⟨hst, hheap⟩ | ⟨bl, obj, hst, hheap, hblk, hbok⟩
  · refine ⟨ε', a.put o.dst val, w', fun p => p ≠ q ∧ M p, ⟨d.kn, fun p j hp hj => .inl (d.pre p j hp hj), hinv, hafter, d.head, hen, fun q' i' o' h1 h2 h3 h4 => ?_, fun p q' j j' h1 h2 h3 h4 h5 h6 h7 h8 he => ?_⟩, by rw [hcsat]; exact hstep⟩
    · by_cases hqq : q' = q
      · subst hqq
        rw [hq] at h2
        injection h2 with h2
        subst h2
        rw [ho] at h4
        injection h4 with h4
        subst h4
        refine ⟨hl, hnewval, .inl ⟨fun h => h.1 rfl, ?_⟩⟩
        rw [show (S (q' + 1)).st = st' from by rw [hS]]
        exact hst
      · have hc : C i' := h3.resolve_right fun h => by subst h; exact hqq (c.inj h2 hq)
        exact hold _ q' i' o' ⟨fun h => h.2, fun h => ⟨hqq, h⟩⟩ h1 h2 hc h4
    · have hc1 : C j := h5.resolve_right fun h => by subst h; exact h7.1 (c.inj h3 hq)
      have hc2 : C j' := h6.resolve_right fun h => by subst h; exact h8.1 (c.inj h4 hq)
      obtain ⟨_, _, hb1⟩ := hmold p j h1 h3 hc1 h7.2
      obtain ⟨_, _, hb2⟩ := hmold q' j' h2 h4 hc2 h8.2
      rw [hb1, hb2] at he
      exact d.minj p q' j j' h1 h2 h3 h4 hc1 hc2 h7.2 h8.2 he
  · have hblk' : ε'.blk (S q).st.next = w.heap.size := by
      rw [(hε2 (S q).st.next ⟨Nat.le_refl _, by rw [hst]; exact Nat.lt_succ_self _⟩).1, hblk]
    refine ⟨ε', a.put o.dst val, w', fun p => p = q ∨ M p, ⟨d.kn, fun p j hp hj => .inl (d.pre p j hp hj), hinv, hafter, d.head, hen, fun q' i' o' h1 h2 h3 h4 => ?_, fun p q' j j' h1 h2 h3 h4 h5 h6 h7 h8 he => ?_⟩, by rw [hcsat]; exact hstep⟩
    · by_cases hqq : q' = q
      · subst hqq
        rw [hq] at h2
        injection h2 with h2
        subst h2
        rw [ho] at h4
        injection h4 with h4
        subst h4
        refine ⟨hl, hnewval, .inr ⟨.inl rfl, bl, obj, by rw [show (S (q' + 1)).st = st' from by rw [hS]]; exact hst, ?_, ?_, ?_, fun id x hx => ?_⟩⟩
        · rw [hblk', hheap]; simp
        · exact hbok.agree hA2 hDD (.inr ⟨Nat.le_refl _, by rw [hst]; exact Nat.lt_succ_self _⟩)
        · rw [hblk']; exact d.after.size
        · rw [hblk', (hAD id (d.inv.sim.there id x hx)).1]
          exact Nat.ne_of_lt (d.inv.sim.lt hx)
      · have hc : C i' := h3.resolve_right fun h => by subst h; exact hqq (c.inj h2 hq)
        exact hold _ q' i' o' ⟨fun h => h.resolve_left hqq, fun h => .inr h⟩ h1 h2 hc h4
    · by_cases hp : p = q
      · by_cases hq' : q' = q
        · rw [hp, hq']
        · have hc2 : C j' := h6.resolve_right fun h => by subst h; exact hq' (c.inj h4 hq)
          obtain ⟨x, hx, hb2⟩ := hmold q' j' h2 h4 hc2 (h8.resolve_left hq')
          rw [hp, hblk', hb2] at he
          have := hlt _ x hx
          omega
      · have hc1 : C j := h5.resolve_right fun h => by subst h; exact hp (c.inj h3 hq)
        obtain ⟨x, hx, hb1⟩ := hmold p j h1 h3 hc1 (h7.resolve_left hp)
        by_cases hq' : q' = q
        · rw [hq', hblk', hb1] at he
          have := hlt _ x hx
          omega
        · have hc2 : C j' := h6.resolve_right fun h => by subst h; exact hq' (c.inj h4 hq)
          obtain ⟨_, _, hb2⟩ := hmold q' j' h2 h4 hc2 (h8.resolve_left hq')
          rw [hb1, hb2] at he
          exact d.minj p q' j j' h1 h2 h3 h4 hc1 hc2 (h7.resolve_left hp) (h8.resolve_left hq') he

end sim
end Go.Proofs.YtbcnedhhebjhdaaGreatDoor.Fa

/-
  Regions that draw their order: a loud operation; the whole region, in any order that the model may draw.
-/
namespace Go.Proofs.YtbcnedhhebjhdaaGreatDoor.Fa

section sim
variable {P : Program} {E : Env0} {nt mask : Nat} {b : Frame} {cs : List Frame} {rx : Rx} {fr : Tr AV} {ops : Array Oper} {is : List Nat} {S : Nat → AS} {n : Nat} {ε0 : Env} {st0 : St} {w0 : World} {C : Nat → Prop} {K : Nat} {M : Nat → Prop} {ε : Env} {a : Act} {w : World}

theorem stepD_loud {q i : Nat} {o : Oper} (hl : loud o.op = true) (stages : List Heap) (lc : Lc) (st : St) : stepD rx (stepOf E ops is q i o) fr stages lc st = xOp rx fr (cOp E (dstsOf ops.toList) o) lc st := by
  have hk : kindD rx (stepOf E ops is q i o) fr stages lc st = xKind rx (cOp E (dstsOf ops.toList) o).dst fr lc st (cOp E (dstsOf ops.toList) o).kind := by
    unfold kindD
    split
    · rename_i qf hq
      exact (loud_quiet hl (show cKind E o.op = .quiet qf from hq)).elim
    · rfl
  show orr (wanted (cOp E (dstsOf ops.toList) o) lc fr) (fun wb => bi wb (kindD rx (stepOf E ops is q i o) fr stages lc st) (.on (putLc o.dst .undef lc) st)) = _
  rw [hk]
  rfl

/-- A loud operation stands just where the plan is. -/
theorem DSim.loudAt (c : DrawCtx E nt rx fr ops is S n) (d : DSim P E nt mask b cs fr ops is S n ε0 st0 w0 C K M ε a w) {q i : Nat} {o : Oper} (hq : is[q]? = some i) (ho : ops[i]? = some o)
    (hready : ∀ j, bit (setAt (befOf ops) i) j = true → C j) (hnot : ¬ C i) (hl : loud o.op = true) (hstop : ∀ j, is[K]? = some j → ¬ C j) : q = K := by
  rcases Nat.lt_trichotomy q K with h | h | h
  · exact absurd (d.pre q i h hq) hnot
  · exact h
  · have hlt : q < is.length := by
      rcases Nat.lt_or_ge q is.length with h | h
      · exact h
      · rw [List.getElem?_eq_none h] at hq; cases hq
    obtain ⟨o', ho', _, _, hall⟩ := c.pos q i hq
    rw [ho] at ho'
    injection ho' with ho'
    subst ho'
    have hK : is[K]? = some is[K] := List.getElem?_eq_getElem (by omega)
    exact absurd (hready _ (hall hl _ (mem_take.2 ⟨K, h, hK⟩))) (hstop _ hK)

/-- What a loud operation comes to. -/
theorem DSim.loudOut (c : DrawCtx E nt rx fr ops is S n) (hcs : CallSound P rx.call) (hrd : rx.rd = b.roundOf.isSome) (hC : Closed ops C) (d : DSim P E nt mask b cs fr ops is S n ε0 st0 w0 C K M ε a w) {i : Nat} {o : Oper} (hq : is[K]? = some i) (ho : ops[i]? = some o)
    (hready : ∀ j, bit (setAt (befOf ops) i) j = true → C j) (hnot : ¬ C i) (k : List Item) (rest : List Nat) :
    ROSoundR (fun t => ∀ (q i : Nat) (o : Oper), K ≤ q → is[q]? = some i → C i → ops[i]? = some o → o.dst ≠ some t) (fun t => ∀ (q i : Nat) (o : Oper), K ≤ q → is[q]? = some i → C i → ops[i]? = some o → o.dst ≠ some t) (fun a' => ∀ t, o.dst ≠ some t → a'.tmps.getD t undef = a.tmps.getD t undef) P E nt mask b cs fr k ops rest ε (S K).st w
      (lone (b.atR a (.inRegion ops (i :: rest) :: k)) (csAt ε (S K).st.um cs) w) (xOp rx fr (cOp E (dstsOf ops.toList) o) (S K).lc (S K).st) := by
  refine opR hcs hrd d.inv (fun t ht => ?_) (fun t ht => .inl ht) (fun v ds t ht => by rw [getD_put ht]) ho fun dd hd => c.dlt i o dd ho hd
  intro q' i' o' h1 h2 h3 h4 h5
  have hne : q' ≠ K := fun h => by
    subst h
    rw [hq] at h2
    injection h2 with h2
    subst h2
    exact hnot h3
  rcases c.writer hC hq ho h2 h4 hne hready hnot ht h5 with h | h
  · omega
  · exact h.2 h3

/-- A loud operation more. -/
theorem DSim.loudStep (c : DrawCtx E nt rx fr ops is S n) (hcs : CallSound P rx.call) (hrd : rx.rd = b.roundOf.isSome) (hC : Closed ops C) (d : DSim P E nt mask b cs fr ops is S n ε0 st0 w0 C K M ε a w) {i : Nat} {o : Oper} (hKn : K < n) (hq : is[K]? = some i) (ho : ops[i]? = some o)
    (hready : ∀ j, bit (setAt (befOf ops) i) j = true → C j) (hnot : ¬ C i) (hl : loud o.op = true) (k : List Item) (rest : List Nat) :
    ∃ ε' a' w', DSim P E nt mask b cs fr ops is S n ε0 st0 w0 (fun x => C x ∨ x = i) (K + 1) M ε' a' w' ∧
      Steps P (lone (b.atR a (.inRegion ops (i :: rest) :: k)) (csAt ε (S K).st.um cs) w) (lone (b.atR a' (.inRegion ops rest :: k)) (csAt ε' (S (K + 1)).st.um cs) w') := by
  obtain ⟨lc', st', hstep, hle, hS⟩ := c.run K i o hKn hq ho
  rw [stepD_loud hl] at hstep
  have hout := d.loudOut c hcs hrd hC hq ho hready hnot k rest
  rw [hstep] at hout
  obtain ⟨ε1, a', w', hinv, htmp, hafter, hsteps⟩ := hout
  have hS' : S (K + 1) = { stages := st'.heap :: (S K).stages, lc := lc', st := st' } := by
    rw [hS]
    unfold AS.on
    rw [hl]
    rfl
  have hst : (S (K + 1)).st = st' := by rw [hS']
  have hlc : (S (K + 1)).lc = lc' := by rw [hS']
  -- what was early
  have hearlyK : ∀ (p ip : Nat), K ≤ p → is[p]? = some ip → C ip → K + 1 ≤ p := fun p ip h1 h2 h3 => by
    rcases Nat.lt_or_ge K p with h | h
    · exact h
    · have : p = K := by omega
      subst this
      rw [hq] at h2
      injection h2 with h2
      subst h2
      exact absurd h3 hnot
  have hearly : ∀ (p ip : Nat), K + 1 ≤ p → is[p]? = some ip → (C ip ∨ ip = i) → C ip := fun p ip h1 h2 h3 => h3.resolve_right fun h => by
    subst h
    have := c.inj h2 hq
    omega
  have hle' : (S K).st.next ≤ st'.next := hle
  have havN : ∀ j, Av S is C K j → j < (S K).st.next ∨ st'.next ≤ j := fun j hj => by
    rcases hj with hj | ⟨p, ip, h1, h2, h3, h4, h5⟩
    · exact .inl hj
    · have hpn := d.en p ip h1 h2 h3
      have := c.mono (p := K + 1) (q := p) (hearlyK p ip h1 h2 h3) (by omega)
      rw [hst] at this
      exact .inr (by omega)
  obtain ⟨ε', hε1, hε2⟩ : ∃ ε' : Env, (∀ j, j < st'.next → ε'.blk j = ε1.blk j ∧ ε'.sft j = ε1.sft j ∧ ε'.ext j = ε1.ext j) ∧ (∀ j, ¬ j < st'.next → ε'.blk j = ε.blk j ∧ ε'.sft j = ε.sft j ∧ ε'.ext j = ε.ext j) :=
    ⟨{ blk := fun j => if j < st'.next then ε1.blk j else ε.blk j, sft := fun j => if j < st'.next then ε1.sft j else ε.sft j, ext := fun j => if j < st'.next then ε1.ext j else ε.ext j },
      fun j hj => by simp only [if_pos hj, and_self], fun j hj => by simp only [if_neg hj, and_self]⟩
  have hA1 : Agree (Dn st'.next) ε1 ε' := fun j hj => hε1 j hj
  have hA : Agree (Av S is C K) ε ε' := fun j hj => by
    rcases havN j hj with h | h
    · obtain ⟨h1, h2, h3⟩ := hε1 j (by omega)
      obtain ⟨h4, h5, h6⟩ := hafter.agree j h
      exact ⟨h1.trans h4, h2.trans h5, h3.trans h6⟩
    · exact hε2 j (by omega)
  have hinv' := hinv.env2 hA1
  have hafter' := hafter.env hA1
  have hav' : ∀ j, Av S is C K j → Av S is (fun x => C x ∨ x = i) (K + 1) j := fun j hj => by
    rcases hj with hj | ⟨p, ip, h1, h2, h3, h4, h5⟩
    · exact .inl (by rw [hst]; omega)
    · exact .inr ⟨p, ip, hearlyK p ip h1 h2 h3, h2, .inl h3, h4, h5⟩
  have hlt : ∀ (k : Nat) x, w.heap[k]? = some x → k < w.heap.size := fun k x hx => by
    rcases Nat.lt_or_ge k w.heap.size with h | h
    · exact h
    · rw [Array.getElem?_eq_none h] at hx; cases hx
  refine ⟨ε', a', w', ⟨hKn, fun p j hp hj => ?_, ?_, ?_, ?_, fun p j hp hj hc => d.en p j (by omega) hj (hearly p j hp hj hc), fun p j oj hp hj hc hoj => ?_, fun p p' j j' hp hp' hj hj' hc hc' hm hm' he => ?_⟩, ?_⟩
  · rcases Nat.lt_or_ge p K with h | h
    · exact .inl (d.pre p j h hj)
    · have : p = K := by omega
      subst this
      rw [hq] at hj
      injection hj with hj
      exact .inr hj.symm
  · rw [hlc, hst]
    refine ⟨hinv'.env, hinv'.glob, hinv'.sim, fun t ht v hv => hinv'.reads t (fun q' i' o' h1 h2 h3 h4 => ht q' i' o' (hearlyK q' i' h1 h2 h3) h2 (.inl h3) h4) v hv, hinv'.size, hinv'.dom, hinv'.defs, hinv'.um⟩
  · rw [hst]
    exact d.after.trans hafter'
  · refine ⟨st'.heap, (S K).stages, by rw [hS'], fun id x hx => by rw [hst]; exact hx⟩
  · have hcj := hearly p j hp hj hc
    have he := d.early p j oj (by omega) hj hcj hoj
    have hsub : ∀ x, AvB S is C K p x → AvB S is (fun x => C x ∨ x = i) (K + 1) p x := fun x hx => ⟨hav' x hx.1, hx.2⟩
    have hAB : Agree (AvB S is C K p) ε ε' := hA.mono fun x hx => hx.1
    refine ⟨he.quiet, fun dd v hdd hv => ?_, ?_⟩
    · have hne : o.dst ≠ some dd := fun hod => by
        have := c.only hj hoj hq ho hdd hod
        omega
      obtain ⟨h5, h6⟩ := he.val dd v hdd hv
      rw [htmp dd hne, h5, g_agree hAB v h6]
      exact ⟨rfl, okv_agree hAB hsub v h6⟩
    · rcases he.st with h | ⟨hm, bl, obj, h5, h6, h7, h8, h9⟩
      · exact .inl h
      · have hltN : (S p).st.next < (S (p + 1)).st.next := by rw [h5]; exact Nat.lt_succ_self _
        have hid : AvB S is C K p (S p).st.next := ⟨.inr ⟨p, j, by omega, hj, hcj, Nat.le_refl _, hltN⟩, hltN⟩
        have hb : ε'.blk (S p).st.next = ε.blk (S p).st.next := (hAB _ hid).1
        refine .inr ⟨hm, bl, obj, h5, ?_, h7.agree hAB hsub hid, by rw [hb]; exact h8, fun id x hx => ?_⟩
        · rw [hb, hafter.frame _ (hlt _ _ h6) fun id x hx _ => h9 id x hx]
          exact h6
        · rw [hst] at hx
          rw [hb]
          rcases hafter'.orig id x hx with h | ⟨id0, x0, h0, _, he0⟩
          · have := hlt _ _ h6
            omega
          · rw [← he0]
            exact h9 id0 x0 h0
  · have hc1 := hearly p j hp hj hc
    have hc2 := hearly p' j' hp' hj' hc'
    have hblk : ∀ (p j : Nat), K + 1 ≤ p → is[p]? = some j → C j → M p → ε'.blk (S p).st.next = ε.blk (S p).st.next := fun p j hp hj hcj hm => by
      obtain ⟨oj, hoj, _⟩ := c.pos p j hj
      rcases (d.early p j oj (by omega) hj hcj hoj).st with ⟨hm', _⟩ | ⟨_, bl, obj, h5, _⟩
      · exact absurd hm hm'
      · have hltN : (S p).st.next < (S (p + 1)).st.next := by rw [h5]; exact Nat.lt_succ_self _
        exact (hA _ (.inr ⟨p, j, by omega, hj, hcj, Nat.le_refl _, hltN⟩)).1
    rw [hblk p j hp hj hc1 hm, hblk p' j' hp' hj' hc2 hm'] at he
    exact d.minj p p' j j' (by omega) (by omega) hj hj' hc1 hc2 hm hm' he
  · rw [hst]
    have : csAt ε' st'.um cs = csAt ε1 st'.um cs := csAt_agree hinv.um hA1
    rw [this]
    exact hsteps

end sim
end Go.Proofs.YtbcnedhhebjhdaaGreatDoor.Fa

/-
  Regions that draw their order, as code.
-/
namespace Go.Proofs.YtbcnedhhebjhdaaGreatDoor.Fa

section sim
variable {P : Program} {E : Env0} {nt mask : Nat} {b : Frame} {cs : List Frame} {rx : Rx} {fr : Tr AV} {ops : Array Oper} {is : List Nat} {S : Nat → AS} {n : Nat} {ε0 : Env} {st0 : St} {w0 : World}

theorem InvR.mono {R R' : Nat → Prop} {ε : Env} {lc : Lc} {st : St} {a : Act} {w : World} (h : InvR R P E nt mask b cs ε lc fr st a w) (hR : ∀ t, R' t → R t) : InvR R' P E nt mask b cs ε lc fr st a w :=
  ⟨h.env, h.glob, h.sim, fun t ht => h.reads t (hR t ht), h.size, h.dom, h.defs, h.um⟩

theorem stepD_quiet {q i : Nat} {o : Oper} (hl : loud o.op = false) {stages : List Heap} {lc : Lc} {st : St} {ch : List APan} {lc' : Lc} {st' : St} (h : stepD rx (stepOf E ops is q i o) fr stages lc st = .panic ch lc' st') : False := by
  have h' : orr (wanted (cOp E (dstsOf ops.toList) o) lc fr) (fun wb => bi wb (kindD rx (stepOf E ops is q i o) fr stages lc st) (.on (putLc o.dst .undef lc) st)) = .panic ch lc' st' := h
  cases hw : wanted (cOp E (dstsOf ops.toList) o) lc fr with
  | none => rw [hw] at h'; cases h'
  | some wb =>
    rw [hw] at h'
    cases wb with
    | false => cases h'
    | true =>
      have h1 : kindD rx (stepOf E ops is q i o) fr stages lc st = .panic ch lc' st' := h'
      unfold kindD at h1
      rcases quiet_kind (E := E) hl with hk | ⟨qf, hk⟩ | ⟨u, hk⟩
      · have hk' : (stepOf E ops is q i o).op.kind = .bad := hk
        rw [hk'] at h1
        cases h1
      · have hk' : (stepOf E ops is q i o).op.kind = .quiet qf := hk
        rw [hk'] at h1
        have h2 : quietD qf o.dst (stepOf E ops is q i o).older fr stages lc st = .panic ch lc' st' := h1
        unfold quietD at h2
        split at h2
        · unfold lookD at h2
          split at h2
          · cases h2
          · split at h2
            · rw [bi_eq] at h2
              split at h2 <;> cases h2
            · cases h2
        · rename_i r _
          cases hr : qf lc fr .nil st.next with
          | fail => rw [hr] at h2; cases h2
          | val v => rw [hr] at h2; cases h2
          | made v bl => rw [hr] at h2; cases h2
          | resv v => rw [hr] at h2; cases h2
      · have hk' : (stepOf E ops is q i o).op.kind = .same u := hk
        rw [hk'] at h1
        cases h1

/-- What the plan ends with. -/
def EndsAs (E : Env0) (rx : Rx) (fr : Tr AV) (ops : Array Oper) (is : List Nat) (S : Nat → AS) (n : Nat) (r : RO) : Prop :=
  (n = is.length ∧ r = .on (S n).lc (S n).st) ∨
  (n + 1 = is.length ∧ ∃ (i : Nat) (o : Oper) (ch : List APan) (lc' : Lc) (st' : St), is[n]? = some i ∧ ops[i]? = some o ∧ loud o.op = true ∧ xOp rx fr (cOp E (dstsOf ops.toList) o) (S n).lc (S n).st = .panic ch lc' st' ∧ r = .panic ch lc' st')

def Gone (listed : Array Bool) (i : Nat) : Prop := listed[i]? = some true

theorem gone_set {listed : Array Bool} {i : Nat} (hi : i < listed.size) : Gone (listed.setIfInBounds i true) = fun x => Gone listed x ∨ x = i := by
  funext x
  apply propext
  unfold Gone
  by_cases h : i = x
  · subst h
    simp [Array.getElem?_setIfInBounds_self_of_lt hi]
  · have h' : ¬ x = i := fun e => h e.symm
    rw [Array.getElem?_setIfInBounds_ne h]
    simp [h']

theorem count_set {listed : Array Bool} {i : Nat} (hf : listed[i]? = some false) : (listed.setIfInBounds i true).toList.count false + 1 = listed.toList.count false := by
  have hi : i < listed.toList.length := by
    rcases Nat.lt_or_ge i listed.size with h | h
    · simpa using h
    · rw [Array.getElem?_eq_none h] at hf; cases hf
  have hv : listed.toList[i] = false := by
    have : listed.toList[i]? = some false := by rw [Array.getElem?_toList]; exact hf
    rw [List.getElem?_eq_getElem hi] at this
    injection this
  rw [Array.toList_setIfInBounds, List.count_set hi, hv]
  have : 0 < listed.toList.count false := List.count_pos_iff.2 (hv ▸ List.getElem_mem hi)
  have h1 : (if (false == false) = true then 1 else 0) = 1 := rfl
  have h2 : (if (true == false) = true then 1 else 0) = 0 := rfl
  rw [h1, h2]
  omega

theorem all_gone {listed : Array Bool} (h : listed.toList.count false = 0) {i : Nat} (hi : i < listed.size) : Gone listed i := by
  unfold Gone
  rw [Array.getElem?_eq_getElem hi]
  cases hb : listed[i] with
  | true => rfl
  | false =>
    exfalso
    have : false ∈ listed.toList := by
      rw [← hb]
      exact Array.getElem_mem_toList hi
    have := List.count_pos_iff.2 this
    omega

/-- Whatever is ready. -/
theorem ready_spec {listed : Array Bool} (hsz : listed.size = ops.size) {i : Nat} (h : i ∈ Region.ready .any ops listed) : i < ops.size ∧ listed[i]? = some false ∧ ∀ o, ops[i]? = some o → ∀ e ∈ o.after.toList, binding e.ground = true → Gone listed e.on := by
  unfold Region.ready at h
  rw [List.mem_filter] at h
  obtain ⟨h1, h2⟩ := h
  have hlt : i < ops.size := by simpa using h1
  simp only [Bool.and_eq_true] at h2
  obtain ⟨h3, h4⟩ := h2
  refine ⟨hlt, ?_, fun o ho e he hbe => ?_⟩
  · have hi : i < listed.size := by omega
    rw [Array.getElem?_eq_getElem hi]
    rw [Array.getD_eq_getD_getElem?, Array.getElem?_eq_getElem hi] at h3
    simpa using h3
  · rw [ho] at h4
    simp only [Option.map_some, Option.getD_some] at h4
    rw [← Array.all_toList, List.all_eq_true] at h4
    have := h4 e he
    rw [← binding_eq, hbe] at this
    unfold Gone
    rw [Array.getD_eq_getD_getElem?] at this
    cases hx : listed[e.on]? with
    | none => rw [hx] at this; simp at this
    | some x => rw [hx] at this; simpa using this

/-- Where nothing is ready all is gone. -/
theorem ready_nil (hb : opsBack ops.toList 0 = true) {listed : Array Bool} (hsz : listed.size = ops.size) (h : Region.ready .any ops listed = []) : ∀ i, i < ops.size → Gone listed i := by
  intro i
  induction i using Nat.strongRecOn with
  | _ i ih =>
    intro hi
    have hnot : i ∉ Region.ready .any ops listed := by rw [h]; simp
    unfold Region.ready at hnot
    rw [List.mem_filter] at hnot
    have hil : i < listed.size := by omega
    cases hx : listed[i] with
    | true => unfold Gone; rw [Array.getElem?_eq_getElem hil, hx]
    | false =>
      exfalso
      refine hnot ⟨by simpa using hi, ?_⟩
      have ho : ops[i]? = some ops[i] := Array.getElem?_eq_getElem hi
      simp only [Bool.and_eq_true]
      refine ⟨by rw [Array.getD_eq_getD_getElem?, Array.getElem?_eq_getElem hil, hx]; rfl, ?_⟩
      rw [ho]
      simp only [Option.map_some, Option.getD_some]
      rw [← Array.all_toList, List.all_eq_true]
      intro e he
      cases hbe : Region.binds .any e with
      | false => rfl
      | true =>
        have hon := opsBack_spec ops.toList 0 hb i ops[i] (by rw [Array.getElem?_toList]; exact ho) e he (by rw [binding_eq]; exact hbe)
        have := ih e.on (by omega) (by omega)
        unfold Gone at this
        simp [Array.getD_eq_getD_getElem?, this]

/-- The region, in any order. -/
theorem drawRun (c : DrawCtx E nt rx fr ops is S n) (hcs : CallSound P rx.call) (hrd : rx.rd = b.roundOf.isSome) (hall : ∀ i, i < ops.size → i ∈ is) {r : RO} (hend : EndsAs E rx fr ops is S n r) (k : List Item) :
    ∀ (fuel t : Nat) (listed : Array Bool) (K : Nat) (M : Nat → Prop) (ε : Env) (a : Act) (w : World), listed.size = ops.size → listed.toList.count false ≤ fuel → Closed ops (Gone listed) →
      DSim P E nt mask b cs fr ops is S n ε0 st0 w0 (Gone listed) K M ε a w → (∀ j, is[K]? = some j → ¬ Gone listed j) →
      ROSound P E nt mask b cs fr k ops [] ε0 st0 w0 (lone (b.atR a (.inRegion ops (Region.linearise.go .any ops fuel t listed []) :: k)) (csAt ε (S K).st.um cs) w) r := by
  -- where all is gone
  have hlast : ∀ (listed : Array Bool) (K : Nat) (M : Nat → Prop) (ε : Env) (a : Act) (w : World), (∀ i, i < ops.size → Gone listed i) → DSim P E nt mask b cs fr ops is S n ε0 st0 w0 (Gone listed) K M ε a w → (∀ j, is[K]? = some j → ¬ Gone listed j) →
      ROSound P E nt mask b cs fr k ops [] ε0 st0 w0 (lone (b.atR a (.inRegion ops [] :: k)) (csAt ε (S K).st.um cs) w) r := by
    intro listed K M ε a w hg d hstop
    have hK : is.length ≤ K := by
      rcases Nat.lt_or_ge K is.length with h | h
      · exfalso
        have hj : is[K]? = some is[K] := List.getElem?_eq_getElem h
        obtain ⟨o, ho, _⟩ := c.pos K _ hj
        have hlt : is[K] < ops.size := by
          rcases Nat.lt_or_ge is[K] ops.size with h | h
          · exact h
          · rw [Array.getElem?_eq_none h] at ho; cases ho
        exact hstop _ hj (hg _ hlt)
      · exact h
    have hKn : K = n := by have := d.kn; have := c.nle; omega
    subst hKn
    rcases hend with ⟨h1, h2⟩ | ⟨h1, _⟩
    · subst h2
      refine ⟨ε, a, w, d.inv.mono fun t _ q i o h3 h4 _ _ _ => ?_, trivial, d.after, .refl _ _⟩
      rw [List.getElem?_eq_none (by omega)] at h4
      cases h4
    · omega
  intro fuel
  induction fuel with
  | zero =>
    intro t listed K M ε a w hsz hcnt hC d hstop
    exact hlast listed K M ε a w (fun i hi => all_gone (by omega) (by omega)) d hstop
  | succ fuel ih =>
    intro t listed K M ε a w hsz hcnt hC d hstop
    have hgo : Region.linearise.go .any ops (fuel + 1) t listed [] = match (Region.ready .any ops listed)[t % (Region.ready .any ops listed).length]? with
      | some i => Region.linearise.go .any ops fuel (t / (Region.ready .any ops listed).length) (listed.setIfInBounds i true) [i]
      | none => [].reverse := rfl
    rw [hgo]
    cases hi : (Region.ready .any ops listed)[t % (Region.ready .any ops listed).length]? with
    | none =>
      have hnil : Region.ready .any ops listed = [] := by
        cases hr : Region.ready .any ops listed with
        | nil => rfl
        | cons x xs =>
          rw [hr] at hi
          have hlt : t % (x :: xs).length < (x :: xs).length := Nat.mod_lt _ (by simp)
          rw [List.getElem?_eq_getElem hlt] at hi
          cases hi
      exact hlast listed K M ε a w (ready_nil c.back hsz hnil) d hstop
    | some i =>
      simp only
      rw [linearise_go_acc, List.reverse_singleton, List.singleton_append]
      obtain ⟨hlt, hfalse, hedges⟩ := ready_spec hsz (List.mem_of_getElem? hi)
      obtain ⟨q, hq⟩ := List.mem_iff_getElem?.1 (hall i hlt)
      obtain ⟨o, ho, _⟩ := c.pos q i hq
      have hnot : ¬ Gone listed i := by unfold Gone; rw [hfalse]; intro h; cases h
      have hready : ∀ j, bit (setAt (befOf ops) i) j = true → Gone listed j := fun j hj => by
        obtain ⟨e, he, hbe, _, hor⟩ := bef_step c.back (i := i) (o := o) (by rw [Array.getElem?_toList]; exact ho) hj
        have hge := hedges o ho e he hbe
        rcases hor with h | h
        · rw [← h]; exact hge
        · exact hC _ hge j h
      have hset := gone_set (listed := listed) (i := i) (by omega)
      have hC' : Closed ops (Gone (listed.setIfInBounds i true)) := by
        rw [hset]
        intro x hx j hj
        rcases hx with hx | hx
        · exact .inl (hC x hx j hj)
        · subst hx; exact .inl (hready j hj)
      have hcnt' : (listed.setIfInBounds i true).toList.count false ≤ fuel := by have := count_set hfalse; omega
      have hsz' : (listed.setIfInBounds i true).size = ops.size := by simp [hsz]
      have hon : ∀ (m m' : Machine) (r : RO), Steps P m m' → ROSound P E nt mask b cs fr k ops [] ε0 st0 w0 m' r → ROSound P E nt mask b cs fr k ops [] ε0 st0 w0 m r := fun m m' r hs h => by
        cases r with
        | fail => trivial
        | on lc st2 =>
          obtain ⟨ε2, a2, w2, h1, hF, h2, h3⟩ := h
          exact ⟨ε2, a2, w2, h1, hF, h2, hs.trans h3⟩
        | panic ch lc st2 =>
          obtain ⟨ε2, a2, w2, todo, h1, h2, h3, h4⟩ := h
          exact ⟨ε2, a2, w2, todo, h1, h2, h3, hs.trans h4⟩
      cases hl : loud o.op with
      | true =>
        have hqK := d.loudAt c hq ho hready hnot hl hstop
        subst hqK
        rcases Nat.lt_or_ge q n with hqn | hqn
        · obtain ⟨ε', a', w', d', hs⟩ := d.loudStep c hcs hrd hC hqn hq ho hready hnot hl k (Region.linearise.go .any ops fuel (t / (Region.ready .any ops listed).length) (listed.setIfInBounds i true) [])
          rw [← hset] at d'
          obtain ⟨K', d2, hu, hstop'⟩ := d'.settle c _ _ (Nat.le_refl _)
          refine hon _ _ _ hs ?_
          rw [← hu]
          exact ih _ _ K' M ε' a' w' hsz' hcnt' hC' d2 hstop'
        · have hKn : q = n := by have := d.kn; omega
          subst hKn
          have hqlen : q < is.length := by
            rcases Nat.lt_or_ge q is.length with h | h
            · exact h
            · rw [List.getElem?_eq_none h] at hq; cases hq
          rcases hend with ⟨h1, _⟩ | ⟨h1, i', o', ch, lc', st', h2, h3, h4, h5, h6⟩
          · omega
          · rw [hq] at h2
            injection h2 with h2
            subst h2
            rw [ho] at h3
            injection h3 with h3
            subst h3
            have hout := d.loudOut c hcs hrd hC hq ho hready hnot k (Region.linearise.go .any ops fuel (t / (Region.ready .any ops listed).length) (listed.setIfInBounds i true) [])
            rw [h5] at hout
            subst h6
            obtain ⟨ε', a', w', todo, h7, h8, h9, h10⟩ := hout
            refine ⟨ε', a', w', todo, h7.mono fun t _ q' i' o' h11 h12 h13 _ _ => ?_, d.after.trans h8, h9, h10⟩
            have := d.en q' i' h11 h12 h13
            omega
      | false =>
        have hqn : q < n := by
          rcases hend with ⟨h1, _⟩ | ⟨h1, i', o', ch, lc', st', h2, h3, h4, _⟩
          · rcases Nat.lt_or_ge q is.length with h | h
            · omega
            · rw [List.getElem?_eq_none h] at hq; cases hq
          · rcases Nat.lt_or_ge q n with h | h
            · exact h
            · have : q = n := by
                rcases Nat.lt_or_ge q is.length with h | h
                · omega
                · rw [List.getElem?_eq_none h] at hq; cases hq
              subst this
              rw [hq] at h2
              injection h2 with h2
              subst h2
              rw [ho] at h3
              injection h3 with h3
              subst h3
              rw [hl] at h4
              cases h4
        have hKq : K ≤ q := by
          rcases Nat.lt_or_ge q K with h | h
          · exact absurd (d.pre q i h hq) hnot
          · exact h
        obtain ⟨ε', a', w', M', d', hs⟩ := d.quietStep c hC hKq hqn hq ho hready hnot hl hstop k (Region.linearise.go .any ops fuel (t / (Region.ready .any ops listed).length) (listed.setIfInBounds i true) [])
        rw [← hset] at d'
        obtain ⟨K', d2, hu, hstop'⟩ := d'.settle c _ _ (Nat.le_refl _)
        refine hon _ _ _ (.one hs) ?_
        rw [← hu]
        exact ih _ _ K' M' ε' a' w' hsz' hcnt' hC' d2 hstop'

end sim

section code
variable {P : Program} {E : Env0} {nt mask : Nat} {b : Frame} {cs : List Frame}

theorem xDraw_in {S : Nat → Prop} (rx : Rx) (fr : Tr AV) : ∀ (steps : List Step) (stages : List Heap) (lc : Lc) (st : St), (∀ s ∈ steps, ∀ d, s.op.dst = some d → S d) → LcIn S lc → ROIn S (xDraw rx fr steps stages lc st)
  | [], _, _, _, _, h => h
  | s :: l, stages, lc, st, hd, h => by
    rw [xDraw_cons]
    have hs := stepD_step (fr := fr) (lc := lc) (st := st) rx s stages
    cases hx : stepD rx s fr stages lc st with
    | fail => trivial
    | on lc' st' =>
      rw [hx] at hs
      have hin : LcIn S lc' := by
        rcases hs with ⟨v, rfl⟩ | ⟨u, rfl⟩
        · exact h.put (hd s List.mem_cons_self) v
        · exact h.putAs (hd s List.mem_cons_self) u
      exact bi_elim (Φ := ROIn S) (fun _ => xDraw_in rx fr l _ lc' st' (fun p hp => hd p (List.mem_cons_of_mem _ hp)) hin) fun _ => trivial
    | panic ch lc' st' =>
      rw [hx] at hs
      have hs' : lc' = lc := hs
      subst hs'
      cases l with
      | nil => exact h
      | cons p l => trivial

/-- A region that draws. -/
theorem drawCode (hmix : P.follows .mixedOrders = true) {cx : Cx} (hcs : CallSound P cx.rx.call) (hrd : cx.rx.rd = b.roundOf.isSome) (id : Nat) (ops : Array Oper) : CodeSound P E nt mask b cs (xRegion E nt mask ops.toList true cx) (.region id ops true) := by
  intro ε fr st a w k hi
  unfold xRegion cRegion
  by_cases hlt : allLt nt ops.toList = true
  · rw [hlt]
    cases hplan : drawPlan E ops.toList with
    | none => trivial
    | some steps =>
      show COSound P E nt mask b cs k ε st w _ (endR (keepOf mask ops.toList) fr (xDraw cx.rx fr steps [st.heap] .nil st))
      -- what the plan's checks say
      have hplan' : bi (andb (opsBack ops.toList 0) (raceFree (dstsOf ops.toList) ops.toList (befOf ops) 0 0 0 [] []))
        (planFrom E (dstsOf ops.toList) ops.toList (befOf ops) (joinL (orderOf (befOf ops) (llen ops.toList) (loudFrom ops.toList 0) 0)) 0 []) none = some steps := hplan
      rw [bi_eq] at hplan'
      split at hplan'
      · rename_i hchk
        simp only [andb_eq, Bool.and_eq_true] at hchk
        generalize hisdef : joinL (orderOf (befOf ops) (llen ops.toList) (loudFrom ops.toList 0) 0) = is at hplan'
        obtain ⟨hlen, hallIs, hspec⟩ := planFrom_spec E (dstsOf ops.toList) ops.toList (befOf ops) is [] 0 [] steps (fun j => by rw [bit_zero]; simp) rfl hplan'
        simp only [List.nil_append] at hallIs hspec
        have hdst : ∀ s ∈ steps, ∀ d, s.op.dst = some d → ∃ o ∈ ops.toList, o.dst = some d := fun s hs d hd => by
          obtain ⟨q, hq⟩ := List.mem_iff_getElem?.1 hs
          have hqlt : q < is.length := by
            rcases Nat.lt_or_ge q steps.length with h | h
            · omega
            · rw [List.getElem?_eq_none h] at hq; cases hq
          obtain ⟨o, ho, hst, _⟩ := hspec q is[q] (List.getElem?_eq_getElem hqlt)
          rw [hq] at hst
          injection hst with hst
          subst hst
          exact ⟨o, List.mem_of_getElem? ho, hd⟩
        cases hr : xDraw cx.rx fr steps [st.heap] .nil st with
        | fail => trivial
        | _ =>
          rw [← hr]
          have hrne : xDraw cx.rx fr steps [st.heap] .nil st ≠ .fail := by rw [hr]; intro h; cases h
          refine COSound.head (.one stepR_region_draw) (endR_ok ?_ (xDraw_in cx.rx fr steps [st.heap] .nil st hdst trivial))
          obtain ⟨S, n, hS0, hn, hrun, hend⟩ := xDraw_trace cx.rx fr steps { stages := [st.heap], lc := .nil, st := st } _ rfl hrne
          have hctx : DrawCtx E nt cx.rx fr ops is S n := by
            refine ⟨hchk.1, hchk.2, fun q i hq => ?_, fun q i o hqn hq ho => ?_, fun i o d ho hd => allLt_eq nt _ hlt o (List.mem_of_getElem? (by rw [Array.getElem?_toList]; exact ho)) d hd, by omega⟩
            · obtain ⟨o, ho, _, h1, h2, h3⟩ := hspec q i hq
              rw [Array.getElem?_toList] at ho
              exact ⟨o, ho, h1, h2, h3⟩
            · obtain ⟨o', ho', hst, _⟩ := hspec q i hq
              rw [Array.getElem?_toList, ho] at ho'
              injection ho' with ho'
              subst ho'
              obtain ⟨s, lc', st', h1, h2, h3, h4⟩ := hrun q hqn
              rw [hst] at h1
              injection h1 with h1
              subst h1
              exact ⟨lc', st', h2, h3, h4⟩
          have hends : EndsAs E cx.rx fr ops is S n (xDraw cx.rx fr steps [st.heap] .nil st) := by
            rcases hend with ⟨h1, h2⟩ | ⟨h1, s, ch, lc', st', h2, h3, h4⟩
            · exact .inl ⟨by omega, h2⟩
            · have hnlt : n < is.length := by omega
              obtain ⟨o, ho, hst, _⟩ := hspec n is[n] (List.getElem?_eq_getElem hnlt)
              rw [hst] at h2
              injection h2 with h2
              subst h2
              rw [Array.getElem?_toList] at ho
              have hloud : loud o.op = true := by
                cases hl : loud o.op with
                | true => rfl
                | false => exact (stepD_quiet (E := E) (ops := ops) (is := is) (q := n) (i := is[n]) hl h3).elim
              exact .inr ⟨by omega, is[n], o, ch, lc', st', List.getElem?_eq_getElem hnlt, ho, hloud, by rw [← stepD_loud (is := is) (q := n) (i := is[n]) hloud (S n).stages]; exact h3, h4⟩
          have hd0 : DSim P E nt mask b cs fr ops is S n ε st w (Gone (Array.replicate ops.size false)) 0 (fun _ => False) ε a { w with drawn := w.drawn + 1 } := by
            have hnone : ∀ i, ¬ Gone (Array.replicate ops.size false) i := fun i h => by
              unfold Gone at h
              rw [Array.getElem?_replicate] at h
              split at h <;> cases h
            refine ⟨Nat.zero_le _, fun q i hq => by omega, ?_, ?_, ?_, fun q i _ _ h => absurd h (hnone i), fun q i o _ _ h => absurd h (hnone i), fun p q i j _ _ _ _ h => absurd h (hnone i)⟩
            · rw [hS0]
              exact ⟨hi.env, hi.glob, hi.sim.heap rfl, fun t _ v hv => hi.reads t trivial v hv, hi.size, hi.dom, hi.defs, hi.um⟩
            · rw [hS0]
              exact After.os_only hi.sim rfl ⟨rfl, rfl, rfl⟩
            · rw [hS0]
              exact ⟨st.heap, [], rfl, fun id x hx => hx⟩
          have := drawRun hctx hcs hrd (fun i hi => hallIs i (by simpa using hi)) hends k ops.size (w.tape w.drawn (.order b.fn id)) (Array.replicate ops.size false) 0 (fun _ => False) ε a { w with drawn := w.drawn + 1 } (by simp) (by simp)
            (fun i h => by
              unfold Gone at h
              rw [Array.getElem?_replicate] at h
              split at h <;> cases h) hd0 (fun j _ h => by
              unfold Gone at h
              rw [Array.getElem?_replicate] at h
              split at h <;> cases h)
          rw [hS0] at this
          have hsched : Region.schedule (P.follows .mixedOrders) ops (w.tape w.drawn (.order b.fn id)) = Region.linearise.go .any ops ops.size (w.tape w.drawn (.order b.fn id)) (Array.replicate ops.size false) [] := by
            simp only [Region.schedule, hmix, Bool.true_or, if_true]
            rfl
          rw [hsched]
          exact this
      · cases hplan'
  · have : allLt nt ops.toList = false := by simpa using hlt
    rw [this]
    trivial

end code
end Go.Proofs.YtbcnedhhebjhdaaGreatDoor.Fa
