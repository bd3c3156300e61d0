/- Dee, part 20: runs with free variables: what an oracle would have to test is put off. -/
import Derived.Test.YtmopbdalpkcffaaDoorDee19
namespace Go.Dee
open Go Go.RowKit

def Grew (s s' : S) : Prop := ∃ O, s'.obl = O ++ s.obl
theorem Grew.refl (s : S) : Grew s s := ⟨[], rfl⟩
theorem Grew.trans {a b c : S} (h : Grew a b) (k : Grew b c) : Grew a c := by
  obtain ⟨x, h⟩ := h
  obtain ⟨y, k⟩ := k
  exact ⟨y ++ x, by rw [k, h, List.append_assoc]⟩
def Held (s : S) : Prop := ∀ o ∈ s.obl, o
theorem Held.back {s s' : S} (h : Held s') (k : Grew s s') : Held s := by
  obtain ⟨O, k⟩ := k
  exact fun o ho => h o (by rw [k]; exact List.mem_append.2 (.inr ho))

/-- The same heap, the same notes. -/
structure Eqv (s t : S) : Prop where
  h : t.h = s.h
  n : t.n = s.n
  on : t.on = s.on
  log : t.log = s.log
theorem Eqv.refl (s : S) : Eqv s s := ⟨rfl, rfl, rfl, rfl⟩
theorem Eqv.same {s t : S} (h : Eqv s t) : Same s t := ⟨fun b j => by simp only [S.at, h.h], h.n⟩

/-- p does what q does, where what was put off holds. -/
def Rf {α : Type} (p q : M α) : Prop := ∀ s t r s', Eqv s t → q s = some (r, s') → Grew s s' ∧ (Held s' → ∃ t', p t = some (r, t') ∧ Eqv s' t')
/-- Puts nothing off. -/
def Still {α : Type} (p : M α) : Prop := ∀ s t r s', Eqv s t → p s = some (r, s') → s'.obl = s.obl ∧ ∃ t', p t = some (r, t') ∧ Eqv s' t'

theorem Still.rf {α : Type} {p : M α} (h : Still p) : Rf p p := fun s t r s' e k => ⟨⟨[], (h s t r s' e k).1⟩, fun _ => (h s t r s' e k).2⟩
theorem Still.fail {α : Type} : Still (Dee.fail : M α) := fun _ _ _ _ _ h => (fail_some h).elim
theorem Still.pure {α : Type} (a : α) : Still (Pure.pure a : M α) := fun s t r s' e h => by obtain ⟨rfl, rfl⟩ := pure_some h; exact ⟨rfl, t, rfl, e⟩
theorem Still.bind {α β : Type} {p : M α} {f : α → M β} (h : Still p) (k : ∀ a, Still (f a)) : Still (M.bind p f) := fun s t r s' e hr => by
  obtain ⟨a, s1, h1, h2⟩ := M.bind_some hr
  obtain ⟨o1, t1, r1, e1⟩ := h s t a s1 e h1
  obtain ⟨o2, t2, r2, e2⟩ := k a s1 t1 r s' e1 h2
  exact ⟨o2.trans o1, t2, by simp only [M.bind, r1, r2], e2⟩
theorem Still.ite {α : Type} {c : Prop} [Decidable c] {x y : M α} (h : Still x) (k : Still y) : Still (if c then x else y) := by split <;> assumption
theorem note_obl (s : S) (b j : Nat) (w : Bool) : (s.note b j w).obl = s.obl := by unfold S.note; split <;> rfl
theorem Eqv.note {s t : S} (h : Eqv s t) (b j : Nat) (w : Bool) : Eqv (s.note b j w) (t.note b j w) := by
  obtain ⟨h1, h2, h3, h4⟩ := h
  unfold S.note
  rw [h3]
  split
  · exact ⟨h1, h2, rfl, by simp only [h4]⟩
  · exact ⟨h1, h2, h3, h4⟩
theorem Still.rdK (b j : Nat) : Still (Dee.rdK b j) := fun s t r s' e h => by
  have ha := e.same.at_ b j
  simp only [Dee.rdK] at h ⊢
  rw [e.n, ha]
  split at h
  · rename_i hb
    rw [if_pos hb]
    split at h
    · simp at h
    · simp only [Option.some.injEq, Prod.mk.injEq] at h
      obtain ⟨rfl, rfl⟩ := h
      exact ⟨note_obl _ _ _ _, _, rfl, e.note _ _ _⟩
  · simp at h
theorem Eqv.put {s t : S} (h : Eqv s t) (b j : Nat) (x : KV) : Eqv (s.put b j x) (t.put b j x) := by
  obtain ⟨h1, h2, h3, h4⟩ := h
  exact ⟨by simp only [S.put, h1], h2, h3, h4⟩
theorem Still.wrK (b j : Nat) (x : KV) : Still (Dee.wrK b j x) := fun s t r s' e h => by
  simp only [Dee.wrK] at h ⊢
  rw [e.n]
  split at h
  · rename_i hb
    rw [if_pos hb]
    simp only [Option.some.injEq, Prod.mk.injEq] at h
    obtain ⟨_, rfl⟩ := h
    exact ⟨by rw [note_obl]; rfl, _, rfl, (e.put _ _ _).note _ _ _⟩
  · simp at h
theorem Still.newB (tr : T KV) : Still (Dee.newB tr) := fun s t r s' e h => by
  simp only [Dee.newB, Option.some.injEq, Prod.mk.injEq] at h ⊢
  obtain ⟨rfl, rfl⟩ := h
  exact ⟨rfl, _, ⟨e.n, rfl⟩, by simp only [e.h, e.n], by simp only [e.n], e.on, e.log⟩
theorem Still.isRows (b : Nat) : Still (Dee.isRows b) := fun s t r s' e h => by
  have ha := e.same.at_ b 0
  simp only [Dee.isRows] at h ⊢
  rw [e.n, ha]
  split at h
  · rename_i hb
    rw [if_pos hb]
    split at h <;> (simp only [Option.some.injEq, Prod.mk.injEq] at h; obtain ⟨rfl, rfl⟩ := h; exact ⟨note_obl _ _ _ _, _, rfl, e.note _ _ _⟩)
  · rename_i hb
    rw [if_neg hb]
    simp only [Option.some.injEq, Prod.mk.injEq] at h
    obtain ⟨rfl, rfl⟩ := h
    exact ⟨rfl, _, rfl, e⟩
theorem Still.rd (b i : Nat) : Still (Dee.rd b i) := by
  refine Still.bind (Still.rdK _ _) fun x => ?_
  split
  · split
    · refine Still.bind (Still.rdK _ _) fun x => ?_
      split
      · split
        · exact Still.fail
        · exact Still.pure _
      · exact Still.fail
    · exact Still.fail
  · exact Still.fail
theorem Still.wr (b i : Nat) (v : Value) : Still (Dee.wr b i v) := by
  refine Still.bind (Still.rdK _ _) fun x => ?_
  split
  · split
    · exact Still.wrK _ _ _
    · exact Still.fail
  · exact Still.fail
theorem Still.newCells (c : List Value) (e : TypeId) (m : BMode) (fz : Nat × Nat) : Still (Dee.newCells c e m fz) := Still.newB _
theorem Still.newObjD (o : Obj) : Still (Dee.newObjD o) := by
  unfold Dee.newObjD
  split
  · exact Still.newB _
  · exact Still.fail
  · split
    · exact Still.newB _
    · exact Still.fail
theorem Still.emb (P : Program) {α : Type} (q : Sem α) : Still (Dee.emb P q) := by
  induction q with
  | pure a => exact Still.pure _
  | load m a k ih =>
    simp only [Dee.emb]; split
    · exact Still.bind (Still.rd _ _) ih
    · exact Still.fail
  | store m a v k ih =>
    simp only [Dee.emb]; split
    · exact Still.bind (Still.wr _ _ _) fun _ => ih
    · exact Still.fail
  | new o k ih => exact Still.bind (Still.newObjD _) ih
  | shape r k ih => exact Still.fail
  | freeze a n k ih => exact Still.fail
  | frozen a k ih => exact Still.fail
  | getObj r k ih =>
    simp only [Dee.emb]
    refine Still.bind (Still.rdK _ _) fun x => ?_
    split <;> first | exact ih _ | exact Still.fail
  | setObj r o k ih =>
    refine Still.bind (Still.rdK _ _) fun x => ?_
    split
    · split
      · exact Still.bind (Still.wrK _ _ _) fun _ => ih
      · exact Still.fail
    · exact Still.fail
  | choose q k ih => simp only [Dee.emb]; split <;> first | exact ih _ | exact Still.fail
  | sys c k ih => exact Still.fail
  | program k ih => exact ih _
  | mark m k ih => exact Still.fail
  | halt h => simp only [Dee.emb]; split <;> first | exact Still.pure _ | exact Still.fail
theorem Still.embV (P : Program) {α : Type} (q : Sem α) : Still (Dee.embV P q) := by
  refine Still.bind (Still.emb P q) fun r => ?_
  split <;> first | exact Still.pure _ | exact Still.fail
section
variable {P : Program}
theorem dApp_still (elem : TypeId) (size : Nat) (x : Value) (sLen sCap : Nat) (b : Option Addr) : Still (dApp P elem size x sLen sCap b) := by
  cases b with
  | none =>
    refine Still.ite ?_ Still.fail
    refine Still.bind (Still.embV _ _) fun new => ?_
    exact Still.ite (Still.pure _) (Still.bind (Still.newCells _ _ _ _) fun _ => Still.pure _)
  | some a =>
    refine Still.ite Still.fail ?_
    refine Still.ite (Still.bind (Still.embV _ _) fun _ => Still.bind (Still.embV _ _) fun _ => Still.pure _) ?_
    refine Still.ite (Still.bind (Still.embV _ _) fun _ => Still.bind (Still.embV _ _) fun _ => Still.bind (Still.newCells _ _ _ _) fun _ => Still.pure _) ?_
    refine Still.bind (Still.embV _ _) fun _ => Still.bind (Still.embV _ _) fun _ => Still.bind (Still.rdK _ _) fun m => ?_
    split
    · exact Still.ite (Still.bind (Still.wrK _ _ _) fun _ => Still.bind (Still.newCells _ _ _ _) fun _ => Still.pure _) Still.fail
    · exact Still.fail
theorem dAppend_still (ts : Array TypeId) (args : Array Value) : Still (dAppend P ts args) := by
  unfold dAppend
  split
  · split
    · split
      · exact Still.fail
      · refine Still.ite Still.fail (Still.ite Still.fail ?_)
        split
        · exact Still.fail
        · exact Still.ite (Still.ite (Still.ite (dApp_still _ _ _ _ _ _) Still.fail) Still.fail) Still.fail
    · exact Still.fail
  · exact Still.fail
theorem dOper_still (P : Program) (ρ : Operand → Value) (o : Oper) : Still (dOper P ρ o) := by
  unfold dOper
  refine Still.ite Still.fail ?_
  split
  · exact Still.bind (dAppend_still _ _) fun _ => Still.pure _
  · split
    · refine Still.bind (Still.ite Still.fail (Still.bind (Still.newCells _ _ _ _) fun _ => Still.pure _)) fun _ => Still.pure _
    · refine Still.ite (Still.bind (Still.emb _ _) fun r => ?_) Still.fail
      split <;> exact Still.pure _
end

theorem Still.mkX (x : XV) : Still (Dee.mkX x) := by
  cases x with
  | v x => unfold Dee.mkX; exact Still.pure _
  | sl n size row => unfold Dee.mkX; exact Still.bind (Still.newB _) fun _ => Still.pure _
theorem Still.mkRow (row : Nat → XV) : ∀ k j, Still (Dee.mkRow row k j)
  | 0, _ => Still.pure _
  | k + 1, j => Still.bind (Still.mkX _) fun _ => Still.bind (Still.mkRow row k (j + 1)) fun _ => Still.pure _
theorem Still.dRow (P : Program) (t : TypeId) (a : Addr) (size : Nat) (row : Nat → Nat → XV) (i : Int) : Still (Dee.dRow P t a size row i) := by
  unfold Dee.dRow
  split
  · split
    · exact Still.ite (Still.bind (Still.mkRow _ _ _) fun _ => Still.bind (Still.newCells _ _ _ _) fun _ => Still.pure _) Still.fail
    · exact Still.fail
  · exact Still.fail

theorem Rf.pure {α : Type} (a : α) : Rf (Pure.pure a : M α) (Pure.pure a) := (Still.pure a).rf
theorem Rf.fail {α : Type} : Rf (Dee.fail : M α) Dee.fail := Still.fail.rf
theorem Rf.bind {α β : Type} {p q : M α} {f g : α → M β} (h : Rf p q) (k : ∀ a, Rf (f a) (g a)) : Rf (M.bind p f) (M.bind q g) := by
  intro s t r s' e hr
  obtain ⟨a, s1, h1, h2⟩ := M.bind_some hr
  have k1 := h s t a s1 e h1
  have k2 := k a s1 s1 r s' (Eqv.refl _) h2
  refine ⟨k1.1.trans k2.1, fun hh => ?_⟩
  obtain ⟨t1, r1, e1⟩ := k1.2 (hh.back k2.1)
  obtain ⟨t2, r2, e2⟩ := (k a s1 t1 r s' e1 h2).2 hh
  exact ⟨t2, by simp only [M.bind, r1, r2], e2⟩
theorem Rf.ite {α : Type} {c : Prop} [Decidable c] {x y x' y' : M α} (h : Rf x x') (k : Rf y y') : Rf (if c then x else y) (if c then x' else y') := by split <;> assumption
theorem Rf.put (o : Prop) : Rf (Dee.put o) (Dee.put o) := fun s t r s' e h => by
  simp only [Dee.put, Option.some.injEq, Prod.mk.injEq] at h
  obtain ⟨_, rfl⟩ := h
  exact ⟨⟨[o], rfl⟩, fun _ => ⟨_, rfl, e.h, e.n, e.on, e.log⟩⟩
theorem Rf.logged {α : Type} {p q : M α} (h : Rf p q) : Rf (Dee.logged p) (Dee.logged q) := by
  intro s t r s' e hr
  simp only [Dee.logged] at hr
  split at hr
  case h_1 => simp at hr
  rename_i a s1 h1
  simp only [Option.some.injEq, Prod.mk.injEq] at hr
  obtain ⟨rfl, rfl⟩ := hr
  obtain ⟨⟨O, g⟩, e1⟩ := h { s with on := true, log := [] } { t with on := true, log := [] } a s1 ⟨e.h, e.n, rfl, rfl⟩ h1
  refine ⟨⟨O, g⟩, fun hh => ?_⟩
  obtain ⟨t1, r1, e2⟩ := e1 hh
  simp only [Dee.logged]
  rw [r1]
  refine ⟨{ t1 with on := t.on, log := if t.on then (t1.log.filter fun x => x.1 < t.n) ++ t.log else t.log }, ?_, e2.h, e2.n, e.on, ?_⟩
  · simp only [e2.log, e2.n, e.n]
  · simp only [e2.log, e.n, e.on, e.log]

theorem cat_run {P : Program} {ρ : Operand → Value} {o : Oper} {a b : ByteArray} (hc : catOf ρ o.op = some (a, b)) (ha : o.op.operands.all (opndOk P) = true) (hk : CatOk a b) (s : S) :
    dOper P ρ o s = some (.value (.string (a ++ b)), s) := by
  unfold catOf at hc
  split at hc
  case h_2 => simp at hc
  rename_i t x y p ho
  split at hc
  case h_2 => simp at hc
  rename_i a' b' hx hy
  simp only [Option.some.injEq, Prod.mk.injEq] at hc
  obtain ⟨rfl, rfl⟩ := hc
  have hall := ha
  rw [ho] at hall
  rw [Array.all_eq_true'] at hall
  have h1 : opndOk P x = true := hall x (by simp [Op.operands])
  have h2 : opndOk P y = true := hall y (by simp [Op.operands])
  unfold dOper
  rw [ha]
  simp only [Bool.not_true, Bool.false_eq_true, if_false]
  rw [ho]
  simp only [isAppend, toBytes]
  have hcap : capOk P (seenBy P ρ) o = true := by
    simp only [capOk, ho, seenBy, h1, h2, if_true, hx, hy]
    simp [binGuard, tag]
  rw [hcap, if_pos rfl]
  have hex : Go.execOp ρ o = Sem.pure (.value (.string (a' ++ b'))) := by
    obtain ⟨dst, op, type, pos, after, guard⟩ := o
    simp only at ho
    subst ho
    unfold CatOk at hk
    simp only [Go.execOp, hx, hy]
    show Sem.bind (Sem.bind (Sem.pure ()) fun _ => Op.stringOp .add a' b') _ = _
    simp only [Sem.bind, Op.stringOp, if_neg hk]
    rfl
  rw [hex]
  rfl

theorem cmp_run {P : Program} {ρ : Operand → Value} {o : Oper} {op : BinOp} {t : TypeId} {x y : Operand} {u v : Value} {d : Bool} (hc : cmpOf ρ o.op = some (op, t, x, y, u, v)) (ha : (o.op.operands.all (opndOk P) && capOk P (seenBy P ρ) o) = true)
    (hk : CmpIs P op t x y u v d) (s : S) : dOper P ρ o s = some (.value (.bool d), s) := by
  unfold cmpOf at hc
  split at hc
  case h_2 => simp at hc
  rename_i op' t' x' y' p ho
  split at hc
  case isFalse => simp at hc
  simp only [Option.some.injEq, Prod.mk.injEq] at hc
  obtain ⟨rfl, rfl, rfl, rfl, rfl, rfl⟩ := hc
  simp only [Bool.and_eq_true] at ha
  unfold dOper
  rw [ha.1]
  simp only [Bool.not_true, Bool.false_eq_true, if_false]
  rw [ha.2]
  obtain ⟨dst, op, type, pos, after, guard⟩ := o
  simp only at ho
  subst ho
  simp only [isAppend, toBytes, if_true]
  have hex : Go.execOp ρ { dst, op := .binOp op' t' x' y' p, type, pos, after, guard } = Sem.bind (do eqGuard op' t' x' y' (ρ x') (ρ y'); binOp op' t' (ρ x') (ρ y')) fun v => Pure.pure (.value v) := rfl
  rw [hex, emb_bind]
  simp only [M.bind, hk s]
  rfl
theorem sayOr_rf {ok : Bool} {obl : Bool → Prop} {p : M ON} (hp : Still p) (h : ok = true → ∀ d, obl d → ∀ t, p t = some (.value (.bool d), t)) : Rf p (sayOr ok obl p) := by
  intro s t r s' e hr
  unfold sayOr at hr
  split at hr
  · exact hp.rf s t r s' e hr
  · rename_i d l hs
    split at hr
    case isFalse => simp at hr
    rename_i hok
    simp only [Option.some.injEq, Prod.mk.injEq] at hr
    obtain ⟨rfl, rfl⟩ := hr
    exact ⟨⟨[obl d], rfl⟩, fun hh => ⟨t, h hok d (hh _ (by simp)) t, e.h, e.n, e.on, e.log⟩⟩
  · rename_i n d l hs
    exact hp.rf { s with say := (n, d) :: l } t r s' ⟨e.h, e.n, e.on, e.log⟩ hr
theorem dOp_rf (P : Program) (ρ : Operand → Value) (o : Oper) : Rf (dOp false P ρ o) (dOp true P ρ o) := by
  unfold dOp
  cases hc : catOf ρ o.op with
  | none =>
    simp only []
    cases hr : rowIx ρ o.op with
    | some q =>
      obtain ⟨t, a, n, i⟩ := q
      simp only []
      refine Rf.bind (Still.isRows _).rf fun x => ?_
      cases x with
      | none => exact (dOper_still _ _ _).rf
      | some y =>
        obtain ⟨m, size, row⟩ := y
        simp only [Bool.false_eq_true, if_false, if_true]
        refine Rf.ite Rf.fail ?_
        intro s t' r s' e hr
        obtain ⟨u, s1, h1, h2⟩ := M.bind_some hr
        have h3 := h1
        simp only [put, Option.some.injEq, Prod.mk.injEq] at h1
        obtain ⟨_, rfl⟩ := h1
        have hst := Still.dRow P t a size row i { s with obl := RowOk n m i :: s.obl } { t' with obl := RowOk n m i :: t'.obl } r s' ⟨e.h, e.n, e.on, e.log⟩ h2
        refine ⟨⟨[RowOk n m i], hst.1⟩, fun hh => ?_⟩
        have hok : RowOk n m i := hh _ (by rw [hst.1]; simp)
        obtain ⟨t2, r2, e2⟩ := hst.2
        refine ⟨t2, ?_, e2⟩
        simp only [M.bind, put, if_pos hok]
        exact r2
    | none =>
      simp only [Bool.false_eq_true, if_false, if_true]
      cases hm : cmpOf ρ o.op with
      | none => exact (dOper_still _ _ _).rf
      | some q =>
        obtain ⟨op, t, x, y, u, v⟩ := q
        exact sayOr_rf (dOper_still _ _ _) fun hok d hd s => cmp_run hm hok hd s
  | some ab =>
    obtain ⟨a, b⟩ := ab
    simp only [Bool.false_eq_true, if_false, if_true]
    intro s t r s' e hr
    obtain ⟨u, s1, h1, h2⟩ := M.bind_some hr
    have h3 := h1
    simp only [put, Option.some.injEq, Prod.mk.injEq] at h1
    obtain ⟨_, rfl⟩ := h1
    split at h2
    case isTrue => exact (fail_some h2).elim
    rename_i hall
    obtain ⟨rfl, rfl⟩ := pure_some h2
    refine ⟨⟨[CatOk a b], rfl⟩, fun hh => ⟨{ t with obl := CatOk a b :: t.obl }, ?_, e.h, e.n, e.on, e.log⟩⟩
    simp only [M.bind, put]
    exact cat_run hc (by simpa using hall) (hh _ (by simp)) _

section
variable {E E' : Env}
structure Fns.Rf (F F' : Fns) : Prop where
  exec : ∀ fn ro c a, Dee.Rf (F.exec fn ro c a) (F'.exec fn ro c a)
  runOps : ∀ fn ro ops l a, Dee.Rf (F.runOps fn ro ops l a) (F'.runOps fn ro ops l a)
  drawOps : ∀ ops l a rows, Dee.Rf (F.drawOps ops l a rows) (F'.drawOps ops l a rows)
  runOp : ∀ o a, Dee.Rf (F.runOp o a) (F'.runOp o a)
  call : ∀ f args, Dee.Rf (F.call f args) (F'.call f args)
  leave : ∀ fn tmps md ds, Dee.Rf (F.leave fn tmps md ds) (F'.leave fn tmps md ds)
  round : ∀ l f tmps x y, Dee.Rf (F.round l f tmps x y) (F'.round l f tmps x y)

/-- The oracles, one beside the other. -/
def OrcRf (E E' : Env) : Prop := ∀ f, match E'.orc f with
  | none => E.orc f = none
  | some q => ∃ p, E.orc f = some p ∧ ∀ args, Rf (p args) (q args)

theorem fns_rf (hn : E.off = false) (hn' : E'.off = true) (hP : E'.P = E.P) (hE : OrcRf E E') : ∀ k, (fns E k).Rf (fns E' k) := by
  intro k
  induction k with
  | zero => exact ⟨fun _ _ _ _ => Rf.fail, fun _ _ _ _ _ => Rf.fail, fun _ _ _ _ => Rf.fail, fun _ _ => Rf.fail, fun _ _ => Rf.fail, fun _ _ _ _ => Rf.fail, fun _ _ _ _ _ => Rf.fail⟩
  | succ k ih =>
    obtain ⟨i1, i2, i3, i4, i5, i6, i7⟩ := ih
    refine ⟨?_, ?_, ?_, ?_, ?_, ?_, ?_⟩
    · intro fn ro c a
      show Rf (exec1 E (fns E k) fn ro c a) (exec1 E' (fns E' k) fn ro c a)
      unfold exec1
      rw [hP]
      cases c <;> simp only [] <;> first
        | exact Rf.fail
        | exact Rf.pure _
        | skip
      case seq x y =>
        refine Rf.bind (i1 _ _ _ _) fun r => ?_
        split
        · exact i1 _ _ _ _
        · exact Rf.pure _
      case cond c x y => split <;> first | exact i1 _ _ _ _ | exact Rf.fail
      case block id c =>
        refine Rf.bind (i1 _ _ _ _) fun r => ?_
        split <;> exact Rf.pure _
      case loop c =>
        refine Rf.bind (i1 _ _ _ _) fun r => ?_
        split
        · exact i1 _ _ _ _
        · exact Rf.pure _
      case region id ops d =>
        exact Rf.ite (Rf.ite (Rf.bind (i3 _ _ _ _) fun r => Rf.ite (Rf.pure _) Rf.fail) Rf.fail) (i2 _ _ _ _ _)
      case rangeFunc f ps x y =>
        refine Rf.ite Rf.fail (Rf.bind (Still.embV _ _).rf fun lm => ?_)
        refine Rf.bind (Still.embV _ _).rf fun r => ?_
        split
        · refine Rf.bind (i5 _ _) fun r => ?_
          split
          · exact Rf.pure _
          · refine Rf.bind (Still.embV _ _).rf fun r => ?_
            split
            · exact Rf.pure _
            · exact i1 _ _ _ _
        · exact Rf.fail
    · intro fn ro ops l a
      cases l with
      | nil => exact Rf.pure _
      | cons i is =>
        show Rf (runOps1 (fns E k) fn ro ops (i :: is) a) (runOps1 (fns E' k) fn ro ops (i :: is) a)
        unfold runOps1
        simp only []
        split
        · exact Rf.fail
        · refine Rf.ite Rf.fail (Rf.ite (Rf.bind (i4 _ _) fun r => ?_) (i2 _ _ _ _ _))
          split
          · exact i2 _ _ _ _ _
          · exact i2 _ _ _ _ _
          · exact Rf.pure _
    · intro ops l a rows
      cases l with
      | nil => exact Rf.pure _
      | cons i is =>
        show Rf (drawOps1 (fns E k) ops (i :: is) a rows) (drawOps1 (fns E' k) ops (i :: is) a rows)
        unfold drawOps1
        simp only []
        split
        · exact Rf.fail
        · refine Rf.ite Rf.fail (Rf.bind (Rf.logged (Rf.ite (i4 _ _) (Rf.pure _))) fun r => ?_)
          split
          · exact i3 _ _ _ _
          · exact Rf.fail
    · intro o a
      show Rf (runOp1 E (fns E k) o a) (runOp1 E' (fns E' k) o a)
      unfold runOp1
      rw [hP]
      rw [hn, hn']
      refine Rf.bind (dOp_rf _ _ _) fun r => ?_
      split
      · exact Rf.pure _
      · exact Rf.pure _
      · split
        · exact Rf.pure _
        · exact Rf.pure _
        · refine Rf.bind (i5 _ _) fun r => ?_
          split <;> exact Rf.pure _
        · refine Rf.bind (i7 _ _ _ _ _) fun r => ?_
          split <;> exact Rf.pure _
        · exact Rf.fail
    · intro f args
      show Rf (call1 E (fns E k) f args) (call1 E' (fns E' k) f args)
      unfold call1
      have hf := hE f
      rw [hP]
      cases hq : E'.orc f with
      | some q =>
        rw [hq] at hf
        obtain ⟨p, hp, hpq⟩ := hf
        rw [hp]
        exact Rf.bind (hpq args) fun _ => Rf.pure _
      | none =>
        rw [hq] at hf
        simp only [] at hf
        rw [hf]
        simp only []
        split
        · exact Rf.fail
        · split
          · exact Rf.fail
          · refine Rf.bind (i1 _ _ _ _) fun r => ?_
            split <;> first | exact i6 _ _ _ _ | exact Rf.fail
    · intro fn tmps md ds
      show Rf (leave1 E (fns E k) fn tmps md ds) (leave1 E' (fns E' k) fn tmps md ds)
      unfold leave1
      rw [hP]
      cases ds with
      | nil =>
        simp only []
        split
        · exact Rf.bind (Still.embV _ _).rf fun _ => Rf.pure _
        · exact Rf.pure _
      | cons d ds =>
        simp only []
        split
        · exact Rf.bind (Still.embV _ _).rf fun _ => i6 _ _ _ _
        · exact Rf.fail
    · intro l f tmps x y
      show Rf (round1 E (fns E k) l f tmps x y) (round1 E' (fns E' k) l f tmps x y)
      unfold round1
      rw [hP]
      refine Rf.bind (i1 _ _ _ _) fun r => ?_
      split
      · refine Rf.ite Rf.fail (Rf.bind (Still.emb _ _).rf fun r => ?_)
        split
        · exact Rf.pure _
        · refine Rf.bind (i1 _ _ _ _) fun r => Rf.ite Rf.fail ?_
          split
          · exact Rf.pure _
          · split
            · exact Rf.fail
            · exact Rf.bind (Still.embV _ _).rf fun _ => Rf.pure _
      · exact Rf.fail
end

/-! The same functions of the library, what they ask put off. -/
def uItoa (args : Array Value) : M Value := match args.toList with
  | [.int .i64 n] => (put (I64 n)).bind fun _ => pure (.string ⟨(dItoa n).toArray⟩)
  | _ => fail
def uFmt10 (args : Array Value) : M Value := match args.toList with
  | [.int .i64 n, .int .i64 10] => (put (I64 n)).bind fun _ => pure (.string ⟨(dItoa n).toArray⟩)
  | _ => fail
def uJoin (args : Array Value) : M Value := match args.toList with
  | [.slice none n _, .string _] => if n = 0 then pure (.string ⟨#[]⟩) else fail
  | [.slice (some a) n c, .string sep] =>
    if a.spot.isSome then fail else
    if n ≤ (if c < OPEN then c else c - OPEN) && n ≤ 140737488355328 then
      (dStrs a.block n a.off).bind fun xs =>
        (put ((Lib.join (xs.map (·.data.toList)) sep.data.toList).length ≤ 140737488355328)).bind fun _ => pure (.string ⟨(Lib.join (xs.map (·.data.toList)) sep.data.toList).toArray⟩)
    else fail
  | _ => fail
theorem put_rf {α : Type} {o : Prop} {p : M α} (hp : Still p) {c : Bool} (hc : o → c = true) : Rf (if c then (put o).bind fun _ => p else fail) ((put o).bind fun _ => p) := by
  intro s t r s' e hr
  have hr' := Rf.bind (Rf.put o) (fun _ => hp.rf) s t r s' e hr
  refine ⟨hr'.1, fun hh => ?_⟩
  obtain ⟨u, s1, h1, h2⟩ := M.bind_some hr
  simp only [put, Option.some.injEq, Prod.mk.injEq] at h1
  obtain ⟨_, rfl⟩ := h1
  have ho : o := hh o (by rw [(hp _ _ _ _ (Eqv.refl _) h2).1]; simp)
  rw [if_pos (hc ho)]
  exact hr'.2 hh
theorem uItoa_rf (args : Array Value) : Rf (oItoa args) (uItoa args) := by
  unfold oItoa uItoa
  generalize args.toList = l
  split
  · rename_i n
    exact put_rf (c := decide (-9223372036854775808 ≤ n) && decide (n ≤ 9223372036854775807)) (Still.pure _) fun h => by simpa [I64] using h
  · rename_i h
    split
    · exact absurd rfl (h _)
    · exact Rf.fail
theorem uFmt10_rf (args : Array Value) : Rf (oFmt10 args) (uFmt10 args) := by
  unfold oFmt10 uFmt10
  generalize args.toList = l
  split
  · rename_i n
    exact put_rf (c := decide (-9223372036854775808 ≤ n) && decide (n ≤ 9223372036854775807)) (Still.pure _) fun h => by simpa [I64] using h
  · rename_i h
    split
    · exact absurd rfl (h _)
    · exact Rf.fail
theorem dStrs_still (b : Nat) : ∀ n i, Still (dStrs b n i)
  | 0, _ => Still.pure _
  | n + 1, i => by
    refine Still.bind (Still.rd _ _) fun v => ?_
    split
    · exact Still.bind (dStrs_still b n (i + 1)) fun _ => Still.pure _
    · exact Still.fail
theorem put_rf' {α : Type} {o : Prop} [Decidable o] {p : M α} (hp : Still p) : Rf (if o then (put o).bind fun _ => p else fail) ((put o).bind fun _ => p) := by
  have := put_rf (o := o) (c := decide o) hp (fun h => by simpa using h)
  simpa only [decide_eq_true_eq] using this
theorem uJoin_rf (args : Array Value) : Rf (oJoin args) (uJoin args) := by
  unfold oJoin uJoin
  generalize args.toList = l
  split
  · exact Rf.ite (Rf.pure _) Rf.fail
  · exact Rf.ite Rf.fail (Rf.ite (Rf.bind (dStrs_still _ _ _).rf fun xs => put_rf' (Still.pure _)) Rf.fail)
  · rename_i h1 h2
    split
    · exact absurd rfl (h1 _ _ _)
    · exact absurd rfl (h2 _ _ _ _)
    · exact Rf.fail
end Go.Dee
