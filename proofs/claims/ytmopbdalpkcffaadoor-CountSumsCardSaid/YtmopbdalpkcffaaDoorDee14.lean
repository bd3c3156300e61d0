/- Dee, part 14: soundness: what the executor answers is what the machine comes to. -/
import Derived.Test.YtmopbdalpkcffaaDoorDee13
namespace Go.Dee
open Go

def PnRel (ν : Nm) (x y : PanicEntry) : Prop := VRel ν x.v y.v ∧ y.recovered = x.recovered ∧ y.goexit = x.goexit
def ChRel (ν : Nm) : List PanicEntry → List PanicEntry → Prop := LRel (PnRel ν)
theorem ChRel.one {ν : Nm} {v v' : Value} (h : VRel ν v v') : ChRel ν [{ v, recovered := false }] [{ v := v', recovered := false }] := ⟨_, _, rfl, ⟨h, rfl, rfl⟩, rfl⟩

/-- Where the machine stands when a piece of code is done. -/
def Arr (P : Program) (ν : Nm) (m : Machine) (fn : FuncId) (kd : CallKind) (ro : Option Nat) (k : List Item) (cs : List Frame) : Ex → Act → World → Prop
  | .norm, a, w => Steps P m (lone (fat fn kd ro a k) cs w)
  | .exit id, a, w => ∃ k', exitTo id k' = exitTo id k ∧ Steps P m (lone (fat fn kd ro a (.code (.exit id) :: k')) cs w)
  | .ret, a, w => ∃ k', Steps P m (lone (fat fn kd ro a (.code .ret :: k')) cs w)
  | .panic ch, a, w => ∃ ch' todo, ChRel ν ch ch' ∧ (∀ kd a, (fat fn kd ro a todo).catches P = false) ∧ Steps P m (lone { fat fn kd ro a todo with mode := .panicking ch' } cs w)
  | .goto _, _, _ => False

theorem Arr.of_steps {P : Program} {ν : Nm} {m m1 : Machine} {fn : FuncId} {kd : CallKind} {ro : Option Nat} {k : List Item} {cs : List Frame} {e : Ex} {a : Act} {w : World}
    (h : Steps P m m1) (h' : Arr P ν m1 fn kd ro k cs e a w) : Arr P ν m fn kd ro k cs e a w := by
  cases e with
  | norm => exact h.trans h'
  | exit id => obtain ⟨k', e, s⟩ := h'; exact ⟨k', e, h.trans s⟩
  | ret => obtain ⟨k', s⟩ := h'; exact ⟨k', h.trans s⟩
  | panic ch => obtain ⟨ch', todo, r, c, s⟩ := h'; exact ⟨ch', todo, r, c, h.trans s⟩
  | goto l => exact h'

/-- An item that no exit stops at. -/
theorem Arr.pass {P : Program} {ν : Nm} {m : Machine} {fn : FuncId} {kd : CallKind} {ro : Option Nat} {x : Item} {k : List Item} {cs : List Frame} {e : Ex} {a : Act} {w : World}
    (hx : ∀ id, e = .exit id → exitTo id (x :: k) = exitTo id k) (hn : e ≠ .norm) (h : Arr P ν m fn kd ro (x :: k) cs e a w) : Arr P ν m fn kd ro k cs e a w := by
  cases e with
  | norm => exact absurd rfl hn
  | exit id => obtain ⟨k', e, s⟩ := h; exact ⟨k', e.trans (hx id rfl), s⟩
  | ret => exact h
  | panic ch => exact h
  | goto l => exact h

def Post (P : Program) (ν : Nm) (s : S) (w : World) (ν' : Nm) (s' : S) (w' : World) : Prop := R P ν' s' w' ∧ Fr ν s w ν' s' w'

/-- What a call comes to. -/
def CallPost (P : Program) (ν : Nm) (s : S) (w : World) (s' : S) (r : CR) (e : Ending) (w' : World) : Prop :=
  ∃ ν', Post P ν s w ν' s' w' ∧ match r, e with
    | .ok v, .returned v' => VRel ν' v v'
    | .error ch, .panicked ch' => ChRel ν' ch ch'
    | _, _ => False

/-- Where it all began; and what holds since. -/
structure Start where
  ν : Nm
  s : S
  w : World
structure Since (c : Start) (ν : Nm) (s : S) (w : World) : Prop where
  os : w.os = c.w.os
  tape : w.tape = c.w.tape
  output : w.output = c.w.output
  size : c.w.heap.size ≤ w.heap.size
  keep : ∀ r, r < c.w.heap.size → ¬ Own c.ν c.s r → w.heap[r]? = c.w.heap[r]?
  own : ∀ r, Own ν s r → Own c.ν c.s r ∨ c.w.heap.size ≤ r
structure Ctx (E : Env) (c : Start) (ν : Nm) (s : S) (w : World) : Prop where
  g : GOk E.P ν
  since : Since c ν s w
  rows : RowsOk ν s w
theorem Ctx.step {E : Env} {c : Start} {ν ν' : Nm} {s s' : S} {w w' : World} (h : Ctx E c ν s w) (k : Fr ν s w ν' s' w') : Ctx E c ν' s' w' where
  g := h.g.mono k.ext
  since := {
    os := k.os.trans h.since.os
    tape := k.tape.trans h.since.tape
    output := k.output.trans h.since.output
    size := Nat.le_trans h.since.size k.size
    keep := fun r hr ho => by
      rw [k.keep r (Nat.lt_of_lt_of_le hr h.since.size) (fun o => by rcases h.since.own r o with o | o; exact ho o; omega), h.since.keep r hr ho]
    own := fun r o => by
      rcases k.own r o with o | o
      · exact h.since.own r o
      · have := h.since.size; exact .inr (by omega) }
  rows := h.rows.step k
theorem Ctx.start {E : Env} {ν : Nm} {s : S} {w : World} (h : GOk E.P ν) (hx : RowsOk ν s w) : Ctx E ⟨ν, s, w⟩ ν s w :=
  ⟨h, ⟨rfl, rfl, rfl, Nat.le_refl _, fun _ _ _ => rfl, fun _ h => .inl h⟩, hx⟩

structure Env.Ok (E : Env) (c : Start) : Prop where
  lcl : E.lcl
  on : E.off = false
  zero : ZeroOk E.P
  zsize : ZSize E.P
  orc : ∀ f p, E.orc f = some p → ∀ args s v s', p args s = some (v, s') → ∀ ν w args', Ctx E c ν s w → R E.P ν s w → VRels ν args args' → Fresh ν s.n s'.n →
    Calls E.P f args' w (CallPost E.P ν s w s' (.ok v))

def MdRel (ν : Nm) : Option (List PanicEntry) → Option (List PanicEntry) → Prop
  | none, m => m = none
  | some ch, m => ∃ ch', m = some ch' ∧ ChRel ν ch ch'

structure Snd (E : Env) (c : Start) (F : Fns) : Prop where
  exec : ∀ fn ro code a s e a' s', F.exec fn ro code a s = some ((e, a'), s') → ∀ ν w b ro' kd k cs todo, Ctx E c ν s w → R E.P ν s w → TRel ν a b → Fresh ν s.n s'.n → RoRel ν ro ro' →
    (todo = .code code :: k ∨ ∃ x, code = .loop x ∧ todo = .inLoop x :: k) →
    ∃ ν' w' b', Arr E.P ν' (lone (fat fn kd ro' b todo) cs w) fn kd ro' k cs e b' w' ∧ Post E.P ν s w ν' s' w' ∧ TRel ν' a' b'
  runOps : ∀ fn ro ops l a s e a' s', F.runOps fn ro ops l a s = some ((e, a'), s') → ∀ ν w b ro' kd k cs, Ctx E c ν s w → R E.P ν s w → TRel ν a b → Fresh ν s.n s'.n → RoRel ν ro ro' →
    ∃ ν' w' b', Arr E.P ν' (lone (fat fn kd ro' b (.inRegion ops l :: k)) cs w) fn kd ro' k cs e b' w' ∧ Post E.P ν s w ν' s' w' ∧ TRel ν' a' b'
  runOp : ∀ o a s r s', F.runOp o a s = some (r, s') → ∀ ν w b ro' fn kd k cs ops i rest, Ctx E c ν s w → R E.P ν s w → TRel ν a b → Fresh ν s.n s'.n →
    ops[i]? = some o → Region.wanted o (yielded ops b.tmps) = true → (ro' = none ∨ isDefer o.op = false) →
    ∃ ν' w', Post E.P ν s w ν' s' w' ∧ match r with
      | .val v => ∃ v', VRel ν' v v' ∧ Steps E.P (lone (fat fn kd ro' b (.inRegion ops (i :: rest) :: k)) cs w) (lone (fat fn kd ro' (b.put o.dst v') (.inRegion ops rest :: k)) cs w')
      | .dfr d => ∃ d', DfRel ν' d d' ∧ Steps E.P (lone (fat fn kd ro' b (.inRegion ops (i :: rest) :: k)) cs w) (lone (fat fn kd ro' ({ b with defers := d' :: b.defers }.put o.dst undef) (.inRegion ops rest :: k)) cs w')
      | .pan ch => ∃ ch', ChRel ν' ch ch' ∧ Steps E.P (lone (fat fn kd ro' b (.inRegion ops (i :: rest) :: k)) cs w) (lone { fat fn kd ro' b (.inRegion ops (i :: rest) :: k) with mode := .panicking ch' } cs w')
  call : ∀ f args s r s', F.call f args s = some (r, s') → ∀ ν w args', Ctx E c ν s w → R E.P ν s w → VRels ν args args' → Fresh ν s.n s'.n → Calls E.P f args' w (CallPost E.P ν s w s' r)
  leave : ∀ fn tmps md ds s r s', F.leave fn tmps md ds s = some (r, s') → ∀ ν w (fr : Frame) cs md', Ctx E c ν s w → R E.P ν s w → VRels ν tmps fr.tmps → LRel (DfRel ν) ds fr.defers → Fresh ν s.n s'.n →
    E.P.funcs[fr.fn]? = some fn → fr.kind = .normal → MdRel ν md md' →
    fr.mode = (match md' with | none => .returning | some ch' => .panicking ch') →
    ∃ e w' fr', CallPost E.P ν s w s' r e w' ∧ Steps E.P (lone fr cs w) (lone fr' cs w') ∧ fr'.fn = fr.fn ∧ fr'.leaving E.P w' e
  round : ∀ l f tmps x y s r s', F.round l f tmps x y s = some (r, s') → ∀ ν w L tmps' cf cs, Ctx E c ν s w → R E.P ν s w → ν l = some L → VRels ν tmps tmps' → Fresh ν s.n s'.n →
    ∃ ν' w', Post E.P ν s w ν' s' w' ∧ match r with
      | .ok v => ∃ v', VRel ν' v v' ∧ Steps E.P (lone (Frame.round L.blk f tmps' x y .normal) (cf :: cs) w) (lone (cf.finish v') cs w')
      | .error ch => ∃ ch', ChRel ν' ch ch' ∧ Steps E.P (lone (Frame.round L.blk f tmps' x y .normal) (cf :: cs) w) (lone (cf.raise ch') cs w')

section
variable {E : Env} {c : Start} {k : Nat}

theorem Lcl.up {α : Type} {p : M α} (h : Lcl p) {s s' : S} {r : α} (hr : p s = some (r, s')) : s.n ≤ s'.n := by obtain ⟨_, h, _⟩ := h s r s' hr; exact h

theorem fat_catches {P : Program} {fn : FuncId} {kd : CallKind} {ro : Option Nat} {a : Act} {x : Item} {t : List Item} (hx : ∀ d b r s, x ≠ .call d b r s) : (fat fn kd ro a (x :: t)).catches P = false := by
  unfold Frame.catches
  split
  · rename_i h
    simp only [fat, List.cons.injEq] at h
    exact absurd h.1 (hx _ _ _ _)
  · rfl

theorem RoRel.mono {ν ν' : Nm} (h : ν.le ν') {r r' : Option Nat} (k : RoRel ν r r') : RoRel ν' r r' := by
  cases r with
  | none => exact k
  | some l => obtain ⟨L, e, q⟩ := k; exact ⟨L, h _ _ e, q⟩

theorem Post.trans {P : Program} {ν ν' ν'' : Nm} {s s' s'' : S} {w w' w'' : World} (h : Post P ν s w ν' s' w') (k : Post P ν' s' w' ν'' s'' w'') : Post P ν s w ν'' s'' w'' :=
  ⟨k.1, h.2.trans k.2⟩
theorem Post.refl {P : Program} {ν : Nm} {s : S} {w : World} (h : R P ν s w) : Post P ν s w ν s w := ⟨h, Fr.refl _ _ _⟩

theorem CallPost.trans {P : Program} {ν ν' : Nm} {s s' s'' : S} {w w' w'' : World} {r : CR} {e : Ending} (h : Post P ν s w ν' s' w') (k : CallPost P ν' s' w' s'' r e w'') : CallPost P ν s w s'' r e w'' := by
  obtain ⟨ν2, p, q⟩ := k
  exact ⟨ν2, h.trans p, q⟩

/-- One operation. -/
theorem snd_runOp (hE : E.Ok c) (ih : Snd E c (fns E k)) : ∀ o a s r s', runOp1 E (fns E k) o a s = some (r, s') → ∀ ν w b ro' fn kd k cs ops i rest, Ctx E c ν s w → R E.P ν s w → TRel ν a b → Fresh ν s.n s'.n →
    ops[i]? = some o → Region.wanted o (yielded ops b.tmps) = true → (ro' = none ∨ isDefer o.op = false) →
    ∃ ν' w', Post E.P ν s w ν' s' w' ∧ match r with
      | .val v => ∃ v', VRel ν' v v' ∧ Steps E.P (lone (fat fn kd ro' b (.inRegion ops (i :: rest) :: k)) cs w) (lone (fat fn kd ro' (b.put o.dst v') (.inRegion ops rest :: k)) cs w')
      | .dfr d => ∃ d', DfRel ν' d d' ∧ Steps E.P (lone (fat fn kd ro' b (.inRegion ops (i :: rest) :: k)) cs w) (lone (fat fn kd ro' ({ b with defers := d' :: b.defers }.put o.dst undef) (.inRegion ops rest :: k)) cs w')
      | .pan ch => ∃ ch', ChRel ν' ch ch' ∧ Steps E.P (lone (fat fn kd ro' b (.inRegion ops (i :: rest) :: k)) cs w) (lone { fat fn kd ro' b (.inRegion ops (i :: rest) :: k) with mode := .panicking ch' } cs w') := by
  intro o a s r s' hrun ν w b ro' fn kd kk cs ops i rest hg hR hT hF ho hw hd
  unfold runOp1 at hrun
  obtain ⟨r1, s1, h1, h2⟩ := M.bind_some hrun
  have hup2 : s1.n ≤ s'.n := by
    refine Lcl.up (p := _) ?_ h2
    split
    · exact Lcl.pure _
    · exact Lcl.pure _
    · split
      · exact Lcl.pure _
      · exact Lcl.pure _
      · refine Lcl.bind ((fns_lcl hE.lcl k).call _ _) fun r => ?_
        split <;> exact Lcl.pure _
      · refine Lcl.bind ((fns_lcl hE.lcl k).round _ _ _ _ _) fun r => ?_
        split <;> exact Lcl.pure _
      · exact Lcl.fail
  rw [hE.on] at h1
  have hup1 := (dOp_lcl _ _ _).up h1
  obtain ⟨ν1, w1, hon, hR1, hF1⟩ := dOp_sim hE.zero hE.zsize hg.g hT hR hg.rows h1 (hF.sub (Nat.le_refl _) hup2)
  cases r1 with
  | value v =>
    obtain ⟨rfl, rfl⟩ := pure_some h2
    obtain ⟨n, hr, v', rfl, hv⟩ := hon
    exact ⟨ν1, w1, ⟨hR1, hF1⟩, v', hv, .one (m_value ho hw hd hr)⟩
  | error v =>
    obtain ⟨rfl, rfl⟩ := pure_some h2
    obtain ⟨v', hr, hv⟩ := hon
    exact ⟨ν1, w1, ⟨hR1, hF1⟩, _, ChRel.one hv, .one (m_panic ho hw hd hr)⟩
  | next n =>
    obtain ⟨m, hr, hn⟩ := hon
    cases n <;> simp only [] at h2 <;> first | exact (fail_some h2).elim | skip
    case skip =>
      obtain ⟨rfl, rfl⟩ := pure_some h2
      simp only [NxRel] at hn
      subst hn
      exact ⟨ν1, w1, ⟨hR1, hF1⟩, undef, undef_rel, .one (m_valueSkip ho hw hd hr)⟩
    case defer d =>
      obtain ⟨rfl, rfl⟩ := pure_some h2
      obtain ⟨d', rfl, hdr⟩ := hn
      exact ⟨ν1, w1, ⟨hR1, hF1⟩, d', hdr, .one (m_defer ho hw hd hr)⟩
    case enter f args =>
      obtain ⟨args', rfl, ha⟩ := hn
      obtain ⟨cr, s2, h3, h4⟩ := M.bind_some h2
      have hs2 : s2 = s' := by split at h4 <;> exact (pure_some h4).2.symm
      subst hs2
      obtain ⟨e, w2, fr, ⟨ν2, hp, hm⟩, hcomes, hfn, hleave⟩ := ih.call f args s1 cr s2 h3 ν1 w1 args' (hg.step hF1) hR1 ha (hF.later hF1 hup2) (fat fn kd ro' b (.inRegion ops (i :: rest) :: kk) :: cs)
      have hP : Post E.P ν s w ν2 s2 w2 := Post.trans ⟨hR1, hF1⟩ hp
      have henter := m_enter (fn := fn) (kd := kd) (ro := ro') (a := b) (k := kk) (cs := cs) (w := w) (rest := rest) ho hw hd hr
      cases cr with
      | ok v =>
        obtain ⟨rfl, _⟩ := pure_some h4
        cases e with
        | returned v' =>
          refine ⟨ν2, w2, hP, v', hm, .head henter (Steps.trans hcomes (.one ?_))⟩
          have hf := fat_finish (fn := fn) (kd := kd) (ro := ro') (a := b) (k := kk) ops i rest v'
          rw [ho, Option.bind_some] at hf
          rw [← hf]
          exact step_leave_returned hleave
        | panicked c => exact hm.elim
        | outgrown => exact hm.elim
      | error ch =>
        obtain ⟨rfl, _⟩ := pure_some h4
        cases e with
        | returned v' => exact hm.elim
        | panicked c => exact ⟨ν2, w2, hP, c, hm, .head henter (Steps.trans hcomes (.one (step_leave_panicked hleave)))⟩
        | outgrown => exact hm.elim
    case round l f tmps x y =>
      obtain ⟨L, tmps', hl, rfl, ha⟩ := hn
      obtain ⟨cr, s2, h3, h4⟩ := M.bind_some h2
      have hs2 : s2 = s' := by split at h4 <;> exact (pure_some h4).2.symm
      subst hs2
      obtain ⟨ν2, w2, hp, hm⟩ := ih.round l f tmps x y s1 cr s2 h3 ν1 w1 L tmps' (fat fn kd ro' b (.inRegion ops (i :: rest) :: kk)) cs (hg.step hF1) hR1 hl ha (hF.later hF1 hup2)
      have hP : Post E.P ν s w ν2 s2 w2 := Post.trans ⟨hR1, hF1⟩ hp
      have henter := m_round (fn := fn) (kd := kd) (ro := ro') (a := b) (k := kk) (cs := cs) (w := w) (rest := rest) ho hw hd hr
      cases cr with
      | ok v =>
        obtain ⟨rfl, _⟩ := pure_some h4
        obtain ⟨v', hv, hs⟩ := hm
        refine ⟨ν2, w2, hP, v', hv, .head henter ?_⟩
        have hf := fat_finish (fn := fn) (kd := kd) (ro := ro') (a := b) (k := kk) ops i rest v'
        rw [ho, Option.bind_some] at hf
        rw [← hf]
        exact hs
      | error ch =>
        obtain ⟨rfl, _⟩ := pure_some h4
        obtain ⟨c, hv, hs⟩ := hm
        exact ⟨ν2, w2, hP, c, hv, .head henter hs⟩

theorem wanted_rel {ν : Nm} {a b : Act} (h : TRel ν a b) (ops : Array Oper) (o : Oper) :
    Region.wanted o (yielded ops b.tmps) = Region.wanted o (yielded ops a.tmps) := by
  have hy : ∀ j, yielded ops b.tmps j = yielded ops a.tmps j := by
    intro j
    unfold yielded
    cases ht : (ops[j]?).bind (·.dst) with
    | none => rfl
    | some t =>
      simp only [Option.bind_some]
      cases e : a.tmps[t]? with
      | none => rw [h.1.get_none e]
      | some v =>
        obtain ⟨v', p, q⟩ := h.1.get e
        rw [p]
        cases v <;> try (simp only [VRel] at q; subst q; rfl)
        case pointer x =>
          cases x with
          | none => simp only [VRel] at q; subst q; rfl
          | some x => obtain ⟨_, _, rfl⟩ := q; rfl
        case slice x l c =>
          cases x with
          | none => simp only [VRel] at q; obtain ⟨_, rfl⟩ := q; rfl
          | some x => obtain ⟨_, _, _, _, rfl⟩ := q; rfl
        case map x =>
          cases x with
          | none => simp only [VRel] at q; subst q; rfl
          | some x => obtain ⟨_, _, rfl⟩ := q; rfl
        case chan x =>
          cases x with
          | none => simp only [VRel] at q; subst q; rfl
          | some x => exact q.elim
        case func f x y => obtain ⟨_, _, _, _, _, _, rfl⟩ := q; rfl
        case iface t x => obtain ⟨_, _, rfl⟩ := q; rfl
        case agg x => obtain ⟨_, _, rfl⟩ := q; rfl
        case tuple x => obtain ⟨_, _, rfl⟩ := q; rfl
  rw [show yielded ops b.tmps = yielded ops a.tmps from funext hy]

theorem snd_runOps (hE : E.Ok c) (ih : Snd E c (fns E k)) : ∀ fn ro ops l a s e a' s', runOps1 (fns E k) fn ro ops l a s = some ((e, a'), s') → ∀ ν w b ro' kd k cs, Ctx E c ν s w → R E.P ν s w → TRel ν a b → Fresh ν s.n s'.n → RoRel ν ro ro' →
    ∃ ν' w' b', Arr E.P ν' (lone (fat fn kd ro' b (.inRegion ops l :: k)) cs w) fn kd ro' k cs e b' w' ∧ Post E.P ν s w ν' s' w' ∧ TRel ν' a' b' := by
  intro fn ro ops l a s e a' s' hrun ν w b ro' kd kk cs hg hR hT hF hro
  unfold runOps1 at hrun
  cases l with
  | nil =>
    obtain ⟨h1, rfl⟩ := pure_some hrun
    simp only [Prod.mk.injEq] at h1
    obtain ⟨rfl, rfl⟩ := h1
    exact ⟨ν, w, b, .one m_regionEnd, .refl hR, hT⟩
  | cons i is =>
    simp only [] at hrun
    cases ho : ops[i]? with
    | none => rw [ho] at hrun; exact (fail_some hrun).elim
    | some o =>
      rw [ho] at hrun
      simp only [] at hrun
      split at hrun
      case isTrue => exact (fail_some hrun).elim
      rename_i hnd
      have hd : ro' = none ∨ isDefer o.op = false := by
        cases ro with
        | none => exact .inl hro
        | some l => exact .inr (by simpa using hnd)
      have hwr := wanted_rel hT ops o
      split at hrun
      · rename_i hw
        rw [← hwr] at hw
        obtain ⟨r, s1, h1, h2⟩ := M.bind_some hrun
        have hup1 := ((fns_lcl hE.lcl k).runOp _ _).up h1
        cases r with
        | val v =>
          simp only [] at h2
          have hup2 := ((fns_lcl hE.lcl k).runOps _ _ _ _ _).up h2
          obtain ⟨ν1, w1, hp1, v', hv, hs⟩ := ih.runOp o a s _ s1 h1 ν w b ro' fn kd kk cs ops i is hg hR hT (hF.sub (Nat.le_refl _) hup2) ho hw hd
          obtain ⟨ν2, w2, b2, harr, hp2, hT2⟩ := ih.runOps fn ro ops is _ s1 e a' s' h2 ν1 w1 (b.put o.dst v') ro' kd kk cs (hg.step hp1.2) hp1.1 ((hT.mono hp1.2.ext).put o.dst hv) (hF.later hp1.2 hup2) (hro.mono hp1.2.ext)
          exact ⟨ν2, w2, b2, .of_steps hs harr, hp1.trans hp2, hT2⟩
        | dfr d =>
          simp only [] at h2
          have hup2 := ((fns_lcl hE.lcl k).runOps _ _ _ _ _).up h2
          obtain ⟨ν1, w1, hp1, d', hv, hs⟩ := ih.runOp o a s _ s1 h1 ν w b ro' fn kd kk cs ops i is hg hR hT (hF.sub (Nat.le_refl _) hup2) ho hw hd
          have hT1 := hT.mono hp1.2.ext
          have hT1' : TRel ν1 { a with defers := d :: a.defers } { b with defers := d' :: b.defers } := ⟨hT1.1, d', _, rfl, hv, hT1.2⟩
          obtain ⟨ν2, w2, b2, harr, hp2, hT2⟩ := ih.runOps fn ro ops is _ s1 e a' s' h2 ν1 w1 _ ro' kd kk cs (hg.step hp1.2) hp1.1 (hT1'.put o.dst undef_rel) (hF.later hp1.2 hup2) (hro.mono hp1.2.ext)
          exact ⟨ν2, w2, b2, .of_steps hs harr, hp1.trans hp2, hT2⟩
        | pan ch =>
          obtain ⟨h3, rfl⟩ := pure_some h2
          simp only [Prod.mk.injEq] at h3
          obtain ⟨rfl, rfl⟩ := h3
          obtain ⟨ν1, w1, hp1, ch', hv, hs⟩ := ih.runOp o _ s _ _ h1 ν w b ro' fn kd kk cs ops i is hg hR hT hF ho hw hd
          exact ⟨ν1, w1, b, ⟨ch', _, hv, fun _ _ => fat_catches (by simp), hs⟩, hp1, hT.mono hp1.2.ext⟩
      · rename_i hw
        rw [← hwr] at hw
        have hw' : Region.wanted o (yielded ops b.tmps) = false := by simpa using hw
        obtain ⟨ν2, w2, b2, harr, hp2, hT2⟩ := ih.runOps fn ro ops is _ s e a' s' hrun ν w (b.put o.dst undef) ro' kd kk cs hg hR (hT.put o.dst undef_rel) hF hro
        exact ⟨ν2, w2, b2, .of_steps (.one (m_opSkip ho hw')) harr, hp2, hT2⟩
end
end Go.Dee
