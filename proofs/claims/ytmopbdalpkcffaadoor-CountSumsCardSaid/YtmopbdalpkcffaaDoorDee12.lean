/- Dee, part 12: a drawn region, run in the text's order, and what it is in any other one. -/
import Derived.Test.YtmopbdalpkcffaaDoorDee11
namespace Go.Dee
open Go

/-- One operation of a drawn region, wanted or not. -/
def opAt (F : Fns) (ops : Array Oper) (o : Oper) (a : Act) : M OpR := if Region.wanted o (yielded ops a.tmps) then F.runOp o a else pure (.val undef)

/-- A region's run, step by step. -/
structure Trace (E : Env) (k : Nat) (ops : Array Oper) (l : List Nat) (a : Act) (s : S) (a' : Act) (s' : S) where
  A : Nat → Act
  X : Nat → S
  V : Nat → Value
  O : Nat → Oper
  G : Nat → Lg
  a0 : A 0 = a
  x0 : X 0 = s
  an : A l.length = a'
  xn : X l.length = s'
  op : ∀ j i, l[j]? = some i → ops[i]? = some (O j)
  nd : ∀ j, j < l.length → isDefer (O j).op = false
  run : ∀ j, j < l.length → ∃ k', k' < k ∧ logged (opAt (fns E k') ops (O j) (A j)) (X j) = some ((.val (V j), G j, (X j).n, (X (j + 1)).n), X (j + 1))
  put : ∀ j, j < l.length → A (j + 1) = (A j).put (O j).dst (V j)

def rowOf (ops : Array Oper) (O : Nat → Oper) (G : Nat → Lg) (X : Nat → S) (j : Nat) : Row :=
  { looks := (O j).looksAt ops, dst := (O j).dst, log := G j, lo := (X j).n, hi := (X (j + 1)).n }
def Trace.row {E : Env} {k : Nat} {ops : Array Oper} {l : List Nat} {a a' : Act} {s s' : S} (t : Trace E k ops l a s a' s') (j : Nat) : Row := rowOf ops t.O t.G t.X j
theorem rowOf_range (ops : Array Oper) (O : Nat → Oper) (G : Nat → Lg) (X : Nat → S) (n : Nat) :
    (List.range (n + 1)).map (rowOf ops O G X) = rowOf ops O G X 0 :: (List.range n).map (rowOf ops (fun j => O (j + 1)) (fun j => G (j + 1)) (fun j => X (j + 1))) := by
  rw [List.range_succ_eq_map, List.map_cons, List.map_map]
  rfl

theorem drawOps_trace {E : Env} {ops : Array Oper} : ∀ (k : Nat) (l : List Nat) (a : Act) (rows : List Row) (s : S) (a' : Act) (rows' : List Row) (s' : S),
    (fns E k).drawOps ops l a rows s = some ((a', rows'), s') → ∃ t : Trace E k ops l a s a' s', rows' = rows ++ (List.range l.length).map t.row := by
  intro k
  induction k with
  | zero => intro l a rows s a' rows' s' h; exact (fail_some (show (Dee.fail : M (Act × List Row)) s = some ((a', rows'), s') from h)).elim
  | succ k ih =>
    intro l a rows s a' rows' s' h
    change drawOps1 (fns E k) ops l a rows s = _ at h
    unfold drawOps1 at h
    cases l with
    | nil =>
      simp only [] at h
      obtain ⟨h1, h2⟩ := pure_some h
      simp only [Prod.mk.injEq] at h1
      obtain ⟨rfl, rfl⟩ := h1
      subst h2
      exact ⟨{ A := fun _ => a', X := fun _ => s', V := fun _ => undef, O := fun _ => default, G := fun _ => [], a0 := rfl, x0 := rfl, an := rfl, xn := rfl,
               op := by simp, nd := by simp, run := by simp, put := by simp }, by simp⟩
    | cons i is =>
      simp only [] at h
      cases ho : ops[i]? with
      | none => rw [ho] at h; exact (fail_some h).elim
      | some o =>
        rw [ho] at h
        simp only [] at h
        split at h
        case isTrue => exact (fail_some h).elim
        rename_i hnd
        obtain ⟨r, s1, h1, h2⟩ := M.bind_some h
        obtain ⟨v, g, lo, hi⟩ := r
        have hlg : lo = s.n ∧ hi = s1.n := by
          have h3 := h1
          simp only [logged] at h3
          split at h3
          · simp at h3
          · simp only [Option.some.injEq, Prod.mk.injEq] at h3
            obtain ⟨⟨_, _, e1, e2⟩, e3⟩ := h3
            subst e3
            exact ⟨e1.symm, e2.symm⟩
        obtain ⟨rfl, rfl⟩ := hlg
        cases v with
        | dfr d => exact (fail_some h2).elim
        | pan c => exact (fail_some h2).elim
        | val v =>
          simp only [] at h2
          obtain ⟨t, ht⟩ := ih _ _ _ _ _ _ _ h2
          refine ⟨{ A := fun | 0 => a | j + 1 => t.A j, X := fun | 0 => s | j + 1 => t.X j, V := fun | 0 => v | j + 1 => t.V j, O := fun | 0 => o | j + 1 => t.O j,
                    G := fun | 0 => g | j + 1 => t.G j, a0 := rfl, x0 := rfl, an := t.an, xn := t.xn, op := ?_, nd := ?_, run := ?_, put := ?_ }, ?_⟩
          · intro j i' hj
            cases j with
            | zero => simp at hj; subst hj; exact ho
            | succ j => exact t.op j i' (by simpa using hj)
          · intro j hj
            cases j with
            | zero => simpa using hnd
            | succ j => exact t.nd j (by simpa using hj)
          · intro j hj
            cases j with
            | zero => exact ⟨k, Nat.lt_succ_self _, by simp only [t.x0]; exact h1⟩
            | succ j =>
              obtain ⟨k', q, r⟩ := t.run j (by simpa using hj)
              exact ⟨k', by omega, r⟩
          · intro j hj
            cases j with
            | zero => exact t.a0
            | succ j => exact t.put j (by simpa using hj)
          · rw [ht, List.append_assoc]
            congr 1
            have := rowOf_range ops (fun | 0 => o | j + 1 => t.O j) (fun | 0 => g | j + 1 => t.G j) (fun | 0 => s | j + 1 => t.X j) is.length
            refine Eq.trans ?_ this.symm
            simp only [rowOf, t.x0, List.singleton_append]
            rfl

theorem logged_some {α : Type} {p : M α} {s s' : S} {r : α × Lg × Nat × Nat} (hp : Lcl p) (h : logged p s = some (r, s')) :
    r.2.2.1 = s.n ∧ r.2.2.2 = s'.n ∧ s.n ≤ s'.n ∧ (∀ e ∈ r.2.1, e.1 < s.n) ∧ (∀ b j, ¬ Wrote r.2.1 s.n s'.n b j → s'.at b j = s.at b j) ∧
    ∀ t, Agrees s t r.2.1 → ∃ t', p { t with on := true, log := [] } = some (r.1, t') ∧ t'.n = s'.n ∧
      (∀ b j, Wrote r.2.1 s.n s'.n b j → t'.at b j = s'.at b j) ∧ (∀ b j, ¬ Wrote r.2.1 s.n s'.n b j → t'.at b j = t.at b j) := by
  simp only [logged] at h
  split at h
  case h_1 => simp at h
  rename_i a s1 h1
  simp only [Option.some.injEq, Prod.mk.injEq] at h
  obtain ⟨rfl, rfl⟩ := h
  obtain ⟨L, n1, b1, f1⟩ := hp _ _ _ h1
  obtain ⟨s1', g1⟩ := f1 _ (Agrees.refl _ _)
  have e1 : s1' = s1 := by have := g1.run; rw [h1] at this; simp at this; exact this.symm
  subst e1
  have hl1 : s1'.log = L := by have := g1.log; simpa using this
  have conv : ∀ b j, Wrote (L.filter fun e => e.1 < s.n) s.n s1'.n b j ↔ Wrote L s.n s1'.n b j := by
    intro b j
    constructor
    · rintro (q | q)
      · exact .inl (List.mem_filter.1 q).1
      · exact .inr q
    · rintro (q | q)
      · by_cases hb : b < s.n
        · exact .inl (List.mem_filter.2 ⟨q, by simpa using hb⟩)
        · exact .inr ⟨by omega, b1 _ q⟩
      · exact .inr q
  rw [hl1]
  refine ⟨rfl, rfl, n1, fun e he => by simpa using (List.mem_filter.1 he).2, fun b j hw => g1.no b j fun q => hw ((conv b j).2 q), fun t ht => ?_⟩
  obtain ⟨t1, g2⟩ := f1 { t with on := true, log := [] } ⟨ht.1, fun e he hl => ht.2 e (List.mem_filter.2 ⟨he, by simpa using hl⟩) hl⟩
  exact ⟨t1, g2.run, g2.n, fun b j hw => g2.yes b j ((conv b j).1 hw), fun b j hw => g2.no b j fun q => hw ((conv b j).2 q)⟩

section
variable {E : Env} {k : Nat} {ops : Array Oper} {a a' : Act} {s s' : S}

theorem opAt_lcl (hE : E.lcl) (k : Nat) (o : Oper) (a : Act) : Lcl (opAt (fns E k) ops o a) := Lcl.ite ((fns_lcl hE k).runOp _ _) (Lcl.pure _)

/-- Two that look at the same. -/
def SameAt (ops : Array Oper) (o : Oper) (a b : Act) : Prop := ∀ d ∈ o.looksAt ops, b.tmps[d]? = a.tmps[d]?
theorem SameAt.eval {o : Oper} {a b : Act} (h : SameAt ops o a b) : ∀ x ∈ o.op.operands, a.eval x = b.eval x := by
  intro x hx
  cases x with
  | tmp t =>
    have := h t (List.mem_append.2 (.inl (List.mem_filterMap.2 ⟨.tmp t, by simpa using hx, rfl⟩)))
    show a.tmps.getD t undef = b.tmps.getD t undef
    rw [Array.getD_eq_getD_getElem?, Array.getD_eq_getD_getElem?, this]
  | _ => rfl
theorem SameAt.wanted {o : Oper} {a b : Act} (h : SameAt ops o a b) : Region.wanted o (yielded ops b.tmps) = Region.wanted o (yielded ops a.tmps) := by
  unfold Region.wanted
  cases hg : o.guard with
  | none => rfl
  | some gw =>
    obtain ⟨g, want⟩ := gw
    simp only []
    have : yielded ops b.tmps g = yielded ops a.tmps g := by
      unfold yielded
      cases ht : (ops[g]?).bind (·.dst) with
      | none => rfl
      | some t =>
        have := h t (List.mem_append.2 (.inr (by simp [hg, ht])))
        simp only [Option.bind_some, this]
    rw [this]
theorem runOp_congr {k : Nat} {o : Oper} {a b : Act} (h : ∀ x ∈ o.op.operands, a.eval x = b.eval x) : (fns E k).runOp o a = (fns E k).runOp o b := by
  cases k with
  | zero => rfl
  | succ k =>
    show runOp1 E (fns E k) o a = runOp1 E (fns E k) o b
    unfold runOp1
    rw [dOp_congr o h]
theorem opAt_congr {k : Nat} {o : Oper} {a b : Act} (h : SameAt ops o a b) : opAt (fns E k) ops o b = opAt (fns E k) ops o a := by
  unfold opAt
  rw [h.wanted, runOp_congr h.eval]

variable (t : Trace E k ops (List.range ops.size) a s a' s')

/-- How far a region has come, in an order of its own. -/
structure Inv (listed : Array Bool) (y : S) (b : Act) : Prop where
  size : listed.size = ops.size
  heap : Valid (K := Nat × Nat) ops.size (fun i key => (t.X i).at key.1 key.2) (fun i key => Wrote (t.G i) (t.X i).n (t.X (i + 1)).n key.1 key.2) (fun i => listed.getD i false = true) (fun key => y.at key.1 key.2)
  tmps : Valid (K := Nat) ops.size (fun i d => (t.A i).tmps[d]?) (fun i d => (t.O i).dst = some d) (fun i => listed.getD i false = true) (fun d => b.tmps[d]?)
  tsize : b.tmps.size = a.tmps.size
  defers : b.defers = a.defers

theorem Act.put_get (c : Act) (o : Option Tmp) (v : Value) (d : Nat) : (c.put o v).tmps[d]? = if o = some d then (if d < c.tmps.size then some v else none) else c.tmps[d]? := by
  cases o with
  | none => simp [Act.put]
  | some e =>
    simp only [Act.put, Option.some.injEq, Array.getElem?_setIfInBounds]
    by_cases h : e = d
    · subst h; rfl
    · rw [if_neg h, if_neg h]
theorem Act.put_size (c : Act) (o : Option Tmp) (v : Value) : (c.put o v).tmps.size = c.tmps.size := by cases o <;> simp [Act.put]
theorem Act.put_def (c : Act) (o : Option Tmp) (v : Value) : (c.put o v).defers = c.defers := by cases o <;> rfl

include t in
theorem Trace.tsize : ∀ j, j ≤ ops.size → (t.A j).tmps.size = a.tmps.size ∧ (t.A j).defers = a.defers := by
  intro j
  induction j with
  | zero => intro _; rw [t.a0]; exact ⟨rfl, rfl⟩
  | succ j ih =>
    intro h
    rw [t.put j (by simp; omega), Act.put_size, Act.put_def]
    exact ih (by omega)

theorem Trace.mono (hE : E.lcl) : ∀ i j, i ≤ j → j ≤ ops.size → (t.X i).n ≤ (t.X j).n := by
  intro i j h
  induction h with
  | refl => intro _; exact Nat.le_refl _
  | step h ih =>
    rename_i m
    intro hm
    obtain ⟨k', _, hr⟩ := t.run m (by simp; omega)
    have := (logged_some (opAt_lcl hE k' _ _) hr).2.2.1
    exact Nat.le_trans (ih (by omega)) this

theorem Trace.oper {j : Nat} (h : j < ops.size) : ops[j]? = some (t.O j) := t.op j j (by simp [h])

theorem Inv.init (listed : Array Bool) (h1 : listed.size = ops.size) (h2 : ∀ i, listed.getD i false = false) : Inv t listed s a where
  size := h1
  heap := by
    have := (Valid.init (K := Nat × Nat) (n := ops.size) (x := fun i key => (t.X i).at key.1 key.2) (W := fun i key => Wrote (t.G i) (t.X i).n (t.X (i + 1)).n key.1 key.2))
    have e : (fun key : Nat × Nat => s.at key.1 key.2) = fun key => (t.X 0).at key.1 key.2 := by rw [t.x0]
    rw [e]
    exact this.congr fun i _ => by rw [h2 i]; simp
  tmps := by
    have := (Valid.init (K := Nat) (n := ops.size) (x := fun i d => (t.A i).tmps[d]?) (W := fun i d => (t.O i).dst = some d))
    have e : (fun d : Nat => a.tmps[d]?) = fun d => (t.A 0).tmps[d]? := by rw [t.a0]
    rw [e]
    exact this.congr fun i _ => by rw [h2 i]; simp
  tsize := rfl
  defers := rfl

/-- They meet: so one is ahead of the other. -/
theorem clash_of {x y : Row} (h : clash x y = false) :
    (∀ d, x.dst = some d → d ∉ y.looks ∧ y.dst ≠ some d) ∧ (∀ d, y.dst = some d → d ∉ x.looks) ∧
    ∀ b j w, (b, j, w) ∈ x.log → ¬ (y.lo ≤ b ∧ b < y.hi) ∧ ∀ v, (b, j, v) ∈ y.log → w = false ∧ v = false := by
  simp only [clash, Bool.or_eq_false_iff] at h
  obtain ⟨⟨⟨⟨h1, h2⟩, h3⟩, h4⟩, h5⟩ := h
  refine ⟨fun d hd => ?_, fun d hd => ?_, fun b j w hw => ?_⟩
  · rw [hd] at h1
    simp only [Bool.or_eq_false_iff, List.contains_eq_mem, decide_eq_false_iff_not, beq_eq_false_iff_ne, ne_eq] at h1
    exact h1
  · rw [hd] at h2
    simpa using h2
  · refine ⟨?_, fun v hv => ?_⟩
    · have := List.any_eq_false.1 h3 _ hw
      simpa using this
    · have k4 := List.any_eq_false.1 h4 _ hw
      have k5 := List.any_eq_false.1 h5 _ hv
      refine ⟨?_, ?_⟩
      · cases w with
        | false => rfl
        | true =>
          exfalso
          refine k4 ?_
          simp only [Bool.true_and]
          exact List.any_eq_true.2 ⟨_, hv, by simp⟩
      · cases v with
        | false => rfl
        | true =>
          exfalso
          refine k5 ?_
          simp only [Bool.true_and]
          exact List.any_eq_true.2 ⟨_, hw, by simp⟩

theorem Trace.frame (hE : E.lcl) : ∀ i, i < ops.size → ∀ key : Nat × Nat, ¬ Wrote (t.G i) (t.X i).n (t.X (i + 1)).n key.1 key.2 → (t.X (i + 1)).at key.1 key.2 = (t.X i).at key.1 key.2 := by
  intro i hi key hw
  obtain ⟨k', _, hr⟩ := t.run i (by simpa using hi)
  exact (logged_some (opAt_lcl hE k' _ _) hr).2.2.2.2.1 _ _ hw
theorem Trace.tframe : ∀ i, i < ops.size → ∀ d : Nat, ¬ (t.O i).dst = some d → (t.A (i + 1)).tmps[d]? = (t.A i).tmps[d]? := by
  intro i hi d hd
  rw [t.put i (by simpa using hi), Act.put_get, if_neg hd]

variable {m : Region.Mode}
/-- THE STEP: whoever is ready may go. -/
theorem Inv.pick (hE : E.lcl) (hap : allApart (aheadOf m ops.toList []) [] ((List.range ops.size).map t.row) = true) {listed : Array Bool} {y : S} {b : Act} (h : Inv t listed y b)
    (hcl : ∀ j o, ops[j]? = some o → listed.getD j false = true → ∀ e ∈ onOf m o, listed.getD e false = true) {j : Nat} (hj : j ∈ Region.ready m ops listed) :
    SameAt ops (t.O j) (t.A j) b ∧ (∃ k', k' < k ∧ ∃ y', opAt (fns E k') ops (t.O j) b { y with n := (t.X j).n, on := true, log := [] } = some (.val (t.V j), y') ∧ y'.n = (t.X (j + 1)).n ∧
      Inv t (listed.setIfInBounds j true) y' (b.put (t.O j).dst (t.V j))) := by
  obtain ⟨hun, o, ho, hall⟩ := mem_ready.1 hj
  have hjn : j < ops.size := (Array.getElem?_eq_some_iff.1 ho).1
  have hoj : o = t.O j := by have := t.oper hjn; rw [ho] at this; exact Option.some.inj this
  subst hoj
  have hD : ¬ listed.getD j false = true := by
    rw [Array.getD_eq_getD_getElem?, Array.getElem?_eq_getElem (by rw [h.size]; exact hjn)] at hun ⊢
    simpa using hun
  have hrow : ∀ i, i < ops.size → ((List.range ops.size).map t.row)[i]? = some (t.row i) := fun i hi => by simp [hi]
  have hah := aheadOf_spec (m := m) ops.toList (fun i => listed.getD i false = true) [] [] rfl (by simp) (by simpa using hcl)
  -- of two that meet the earlier one is ahead
  have meet : ∀ i i', i < i' → i' < ops.size → clash (t.row i') (t.row i) = false ∨ ((∀ e ∈ onOf m (t.O i'), listed.getD e false = true) → listed.getD i false = true) := by
    intro i i' hlt hi'
    rcases allApart_spec _ [] hap i i' (t.row i') (t.row i) (by simpa using hrow i (by omega)) (by simpa using hrow i' hi') hlt (by simp) with q | q
    · exact .inr fun he => hah i' (t.O i') (by simpa using t.oper hi') he i q
    · exact .inl q
  have hedge : ∀ e ∈ onOf m (t.O j), listed.getD e false = true := fun e he => by
    obtain ⟨e', h1, h2, h3⟩ := onOf_spec he
    exact h3 ▸ hall e' h1 h2
  have before : ∀ i, i < j → clash (t.row j) (t.row i) = false ∨ listed.getD i false = true := fun i hi => (meet i j hi hjn).imp id fun q => q hedge
  have behind : ∀ i, i < ops.size → j < i → clash (t.row i) (t.row j) = false ∨ ¬ listed.getD i false = true := by
    intro i hi hlt
    rcases meet j i hlt hi with q | q
    · exact .inl q
    · exact .inr fun hd => hD (q (hcl i (t.O i) (t.oper hi) hd))
  have lowlog : ∀ i, i < ops.size → ∀ e ∈ t.G i, e.1 < (t.X i).n := by
    intro i hi
    obtain ⟨k', _, hr⟩ := t.run i (by simpa using hi)
    exact (logged_some (opAt_lcl hE k' _ _) hr).2.2.2.1
  -- slots
  have slot : ∀ d ∈ (t.O j).looksAt ops, b.tmps[d]? = (t.A j).tmps[d]? := by
    intro d hd
    refine Valid.look (n := ops.size) (x := fun i d => (t.A i).tmps[d]?) (W := fun i d => (t.O i).dst = some d) (t.tframe) h.tmps hjn hD (fun i hi hw => ?_) fun i hi hlt hw => ?_
    · rcases before i hi with q | q
      · exact absurd hd ((clash_of q).2.1 d hw)
      · exact q
    · rcases behind i hi hlt with q | q
      · exact absurd hd ((clash_of q).1 d hw).1
      · exact q
  have hsame : SameAt ops (t.O j) (t.A j) b := slot
  refine ⟨hsame, ?_⟩
  obtain ⟨k', hk', hr⟩ := t.run j (by simpa using hjn)
  obtain ⟨_, _, hn, hlow, _, hrun⟩ := logged_some (opAt_lcl hE k' _ _) hr
  simp only at hn hlow hrun
  have hlook : ∀ e ∈ t.G j, y.at e.1 e.2.1 = (t.X j).at e.1 e.2.1 := by
    intro e he
    obtain ⟨eb, ej, ew⟩ := e
    refine Valid.look (n := ops.size) (x := fun i (key : Nat × Nat) => (t.X i).at key.1 key.2) (W := fun i key => Wrote (t.G i) (t.X i).n (t.X (i + 1)).n key.1 key.2) (key := (eb, ej)) (t.frame hE) h.heap hjn hD (fun i hi hw => ?_) fun i hi hlt hw => ?_
    · rcases before i hi with q | q
      · have q2 := (clash_of q).2.2 eb ej ew he
        rcases hw with hw | hw
        · have := (q2.2 true hw).2; simp at this
        · exact absurd hw q2.1
      · exact q
    · rcases behind i hi hlt with q | q
      · rcases hw with hw | hw
        · have q2 := (clash_of q).2.2 eb ej true hw
          have := (q2.2 ew he).1; simp at this
        · have h1 := lowlog j hjn _ he
          have h2 := t.mono hE (j + 1) i (by omega) (by omega)
          have h3 := t.mono hE j (j + 1) (by omega) (by omega)
          simp only at h1 hw
          omega
      · exact q
  obtain ⟨y', r1, r2, r3, r4⟩ := hrun { y with n := (t.X j).n } ⟨rfl, fun e he _ => hlook e he⟩
  refine ⟨k', hk', y', ?_, r2, ?_⟩
  · rw [opAt_congr hsame]; exact r1
  have hset : ∀ i, i < ops.size → ((listed.getD i false = true ∨ i = j) ↔ (listed.setIfInBounds j true).getD i false = true) := by
    intro i hi
    by_cases e : i = j
    · subst e
      simp [h.size, hi]
    · rw [getD_set_ne false (Ne.symm e)]
      simp [e]
  refine ⟨by simp [h.size], ?_, ?_, ?_, ?_⟩
  · refine (Valid.step (n := ops.size) (x := fun i (key : Nat × Nat) => (t.X i).at key.1 key.2) (W := fun i key => Wrote (t.G i) (t.X i).n (t.X (i + 1)).n key.1 key.2) h.heap hjn (fun key hw => r3 _ _ hw) (fun key hw => r4 _ _ hw) fun i key hi hlt hwi hwj => ?_).congr hset
    rcases behind i hi hlt with q | q
    · rcases hwi with hw | hw
      · have q2 := (clash_of q).2.2 key.1 key.2 true hw
        rcases hwj with hw' | hw'
        · have := (q2.2 true hw').1; simp at this
        · exact absurd hw' q2.1
      · have h2 := t.mono hE (j + 1) i (by omega) (by omega)
        rcases hwj with hw' | hw'
        · have h1 := lowlog j hjn _ hw'
          have h3 := t.mono hE j (j + 1) (by omega) (by omega)
          simp only at h1 hw
          omega
        · omega
    · exact q
  · refine (Valid.step (n := ops.size) (x := fun i d => (t.A i).tmps[d]?) (W := fun i d => (t.O i).dst = some d) h.tmps hjn (fun d hw => ?_) (fun d hw => ?_) fun i d hi hlt hwi hwj => ?_).congr hset
    · simp only [t.put j (by simpa using hjn), Act.put_get, if_pos hw, h.tsize, (t.tsize j (by omega)).1]
    · simp only [Act.put_get, if_neg hw]
    · rcases behind i hi hlt with q | q
      · exact absurd hwj ((clash_of q).1 d hwi).2
      · exact q
  · rw [Act.put_size]; exact h.tsize
  · rw [Act.put_def]; exact h.defers

/-- At the end all is as it is in the text's order. -/
theorem Inv.done (hE : E.lcl) {listed : Array Bool} {y : S} {b : Act} (h : Inv t listed y b) (hall : ∀ i, i < ops.size → listed.getD i true = true) :
    b = a' ∧ ∀ x z, y.at x z = s'.at x z := by
  have hD : ∀ i, i < ops.size → listed.getD i false = true := fun i hi => by
    have := hall i hi
    rw [Array.getD_eq_getD_getElem?, Array.getElem?_eq_getElem (by rw [h.size]; exact hi)] at this ⊢
    simpa using this
  have ha : t.A ops.size = a' := by have := t.an; rwa [List.length_range] at this
  have hx : t.X ops.size = s' := by have := t.xn; rwa [List.length_range] at this
  have h1 := fun d => Valid.all (n := ops.size) (x := fun i d => (t.A i).tmps[d]?) (W := fun i d => (t.O i).dst = some d) t.tframe h.tmps hD d
  have h2 := fun (key : Nat × Nat) => Valid.all (n := ops.size) (x := fun i (key : Nat × Nat) => (t.X i).at key.1 key.2) (W := fun i key => Wrote (t.G i) (t.X i).n (t.X (i + 1)).n key.1 key.2) (t.frame hE) h.heap hD key
  simp only [ha, hx] at h1 h2
  obtain ⟨s1, s2⟩ := t.tsize ops.size (Nat.le_refl _)
  rw [ha] at s1 s2
  refine ⟨?_, fun x z => h2 (x, z)⟩
  have e1 : b.tmps = a'.tmps := Array.ext_getElem? (fun i => h1 i)
  have e2 : b.defers = a'.defers := by rw [h.defers, s2]
  cases b; cases a'
  simp only at e1 e2
  subst e1 e2
  rfl
end
end Go.Dee
