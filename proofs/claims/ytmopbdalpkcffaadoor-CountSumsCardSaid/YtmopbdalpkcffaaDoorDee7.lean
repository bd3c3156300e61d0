/- Dee, part 7: calls, ranges over functions; every operation. -/
import Derived.Test.YtmopbdalpkcffaaDoorDee6
namespace Go.Dee
open Go
section
variable {P : Program} {ν : Nm}

def PlRel (ν : Nm) : Place → Place → Prop
  | .val v, p => ∃ v', p = .val v' ∧ VRel ν v v'
  | .var a, p => ∃ b, p = .var b ∧ ARel ν a b
theorem PlRel.mono {ν' : Nm} {p q : Place} (h : PlRel ν p q) (k : ν.le ν') : PlRel ν' p q := by
  cases p with
  | val v => obtain ⟨v', e, r⟩ := h; exact ⟨v', e, r.mono k⟩
  | var a => obtain ⟨b, e, r⟩ := h; exact ⟨b, e, r.mono k⟩

theorem Sim.placeGet {t : TypeId} {p q : Place} (h : PlRel ν p q) : Sim P ν VRel (Place.get t p) (Place.get t q) := by
  cases p with
  | val v => obtain ⟨v', rfl, r⟩ := h; exact Sim.retV r
  | var a => obtain ⟨b, rfl, r⟩ := h; exact Sim.loadVar r

theorem Sim.follow (hg : GOk P ν) : ∀ (l : List FieldStep) {ν1 : Nm} (_ : ν.le ν1) {t : TypeId} {p q : Place} (_ : PlRel ν1 p q), Sim P ν1 (fun ν a b => b.1 = a.1 ∧ PlRel ν a.2 b.2) (Go.follow l t p) (Go.follow l t q) := by
  intro l
  induction l with
  | nil => intro ν1 e t p q h; exact Sim.pure fun _ k => ⟨rfl, h.mono k⟩
  | cons s l ih =>
    intro ν1 e t p q h
    unfold Go.follow
    refine Sim.underlying fun d _ => ?_
    cases d <;> first | exact Sim.fail rfl | skip
    rename_i fs _
    simp only []
    cases fs[s.index]? with
    | none => exact Sim.fail rfl
    | some f =>
      simp only []
      refine Sim.ite (fun _ => ?_) fun _ => ?_
      · refine Sim.bind' (Sim.placeGet h) fun ν2 e2 v v' kv => ?_
        refine Sim.bind' (Sim.asAddr (hg.mono (Nm.le_trans e e2)) kv) fun ν3 e3 a b ka => ?_
        refine Sim.bind' (Sim.fieldPlace ka f) fun ν4 e4 a b kb => ?_
        exact ih (Nm.le_trans e (Nm.le_trans e2 (Nm.le_trans e3 e4))) ⟨_, rfl, kb⟩
      · cases p with
        | var a =>
          obtain ⟨b, rfl, r⟩ := h
          exact Sim.bind' (Sim.fieldPlace r f) fun ν4 e4 a b kb => ih (Nm.le_trans e e4) ⟨_, rfl, kb⟩
        | val v =>
          obtain ⟨v', rfl, r⟩ := h
          cases v <;> first | exact Sim.fail rfl | skip
          obtain ⟨x', rfl, kx⟩ := agg_rel r
          exact Sim.bind' (Sim.part kx _) fun ν4 e4 a b kb => ih (Nm.le_trans e e4) ⟨_, rfl, kb⟩

theorem Sim.wrapNil {ts : Array TypeId} {t : TypeId} {a b : ByteArray} {v v' : Value} (h : VRel ν v v') : Sim P ν VRel (Builtin.ssaWrapNilChk_ ts t #[v, .string a, .string b]) (Builtin.ssaWrapNilChk_ ts t #[v', .string a, .string b]) := by
  cases v <;> first | exact Sim.fail rfl | skip
  rename_i p
  cases p with
  | none => exact Sim.fail rfl
  | some p => simp only [VRel] at h; obtain ⟨b', k, rfl⟩ := h; exact Sim.retV ⟨b', k, rfl⟩

theorem Sim.receiverAt (hg : GOk P ν) {t : TypeId} {p q : Place} {b : Bool} {w : Option String} (h : PlRel ν p q) : Sim P ν VRel (Go.receiverAt t p b w) (Go.receiverAt t q b w) := by
  unfold Go.receiverAt
  refine Sim.underlying fun d _ => ?_
  have ptr : ∀ elem, Sim P ν VRel
      (do
        let ptr ← p.get t
        let ptr ← match w with
          | some name => Builtin.ssaWrapNilChk_ #[t] t #[ptr, strVal "", strVal name]
          | none => Pure.pure ptr
        Go.loadVar elem (← Go.asAddr ptr))
      (do
        let ptr ← q.get t
        let ptr ← match w with
          | some name => Builtin.ssaWrapNilChk_ #[t] t #[ptr, strVal "", strVal name]
          | none => Pure.pure ptr
        Go.loadVar elem (← Go.asAddr ptr)) := by
    intro elem
    refine Sim.bind' (Sim.placeGet h) fun ν1 e1 v v' kv => ?_
    have fin : ∀ ν2, ν1.le ν2 → ∀ v v', VRel ν2 v v' → Sim P ν2 VRel (do Go.loadVar elem (← Go.asAddr v)) (do Go.loadVar elem (← Go.asAddr v')) := fun ν2 e2 v v' kv =>
      Sim.bind' (Sim.asAddr (hg.mono (Nm.le_trans e1 e2)) kv) fun ν3 e3 a b k => Sim.loadVar k
    cases w with
    | none => exact fin _ (Nm.le_refl _) _ _ kv
    | some name => exact Sim.bind' (Sim.wrapNil kv) fun ν2 e2 v v' kv => fin ν2 e2 _ _ kv
  have get : Sim P ν VRel (p.get t) (q.get t) := Sim.placeGet h
  cases b
  · cases d <;> first | exact ptr _ | exact get
  · cases d <;> first | exact get | skip
    all_goals
      cases p with
      | var a => obtain ⟨b, rfl, r⟩ := h; exact Sim.retV ⟨b, r, rfl⟩
      | val v => exact Sim.fail rfl

theorem Sim.receiverVia (hg : GOk P ν) {t : TypeId} {v v' : Value} {path : Array FieldStep} {b : Bool} (h : VRel ν v v') : Sim P ν VRel (Go.receiverVia t v path b) (Go.receiverVia t v' path b) := by
  unfold Go.receiverVia
  refine Sim.bind' (Sim.follow hg path.toList (Nm.le_refl _) ⟨_, rfl, h⟩) ?_
  rintro ν1 e ⟨x, p⟩ ⟨x', p'⟩ ⟨h1, h2⟩
  simp only at h1 h2
  subst h1
  exact Sim.receiverAt (hg.mono e) h2

theorem Sim.method (hg : GOk P ν) : ∀ (n : Nat) {ν1 : Nm} (_ : ν.le ν1) {t : TypeId} {v v' : Value} {name : String} (_ : VRel ν1 v v'),
    Sim P ν1 (fun ν a b => b.1 = a.1 ∧ VRel ν a.2 b.2) (Go.method n t v name) (Go.method n t v' name) := by
  intro n
  induction n with
  | zero => intro ν1 e t v v' name h; exact Sim.fail rfl
  | succ n ih =>
    intro ν1 e t v v' name h
    unfold Go.method
    refine Sim.typeInfo fun i _ => ?_
    cases i.methods.find? (·.name == name) with
    | none => exact Sim.fail rfl
    | some m =>
      simp only []
      refine Sim.bind' (Sim.follow (hg.mono e) m.path.toList (Nm.le_refl _) ⟨_, rfl, h⟩) ?_
      rintro ν2 e2 ⟨x, p⟩ ⟨x', p'⟩ ⟨h1, h2⟩
      simp only at h1 h2
      subst h1
      simp only []
      cases m.func with
      | none =>
        simp only []
        refine Sim.bind' (Sim.placeGet h2) fun ν3 e3 u u' ku => ?_
        cases u <;> first | exact Sim.fail rfl | skip
        · obtain ⟨x', rfl, kx⟩ := iface_rel ku
          exact ih (Nm.le_trans e (Nm.le_trans e2 e3)) kx
        · simp only [VRel] at ku; subst ku
          exact Sim.runtimePanic (hg.mono (Nm.le_trans e (Nm.le_trans e2 e3))) _
      | some fb =>
        obtain ⟨f, b⟩ := fb
        simp only []
        exact Sim.bind' (Sim.receiverAt (hg.mono (Nm.le_trans e e2)) h2) fun ν3 e3 u u' ku => Sim.pure fun _ k => ⟨rfl, ku.mono k⟩

def NxRel (ν : Nm) : Next → Next → Prop
  | .value v, n => ∃ v', n = .value v' ∧ VRel ν v v'
  | .skip, n => n = .skip
  | .enter f x, n => ∃ y, n = .enter f y ∧ VRels ν x y
  | .round l f x a b, n => ∃ L y, ν l = some L ∧ n = .round L.blk f y a b ∧ VRels ν x y
  | .defer d, n => ∃ e, n = .defer e ∧ DfRel ν d e
  | _, _ => True
theorem NxRel.mono {ν' : Nm} {p q : Next} (h : NxRel ν p q) (k : ν.le ν') : NxRel ν' p q := by
  cases p with
  | value v => obtain ⟨v', e, r⟩ := h; exact ⟨v', e, r.mono k⟩
  | skip => exact h
  | enter f x => obtain ⟨y, e, r⟩ := h; exact ⟨y, e, VRels.mono k r⟩
  | round l f x a b => obtain ⟨L, y, a, e, r⟩ := h; exact ⟨L, y, k _ _ a, e, VRels.mono k r⟩
  | defer d => obtain ⟨v', e, r⟩ := h; exact ⟨v', e, r.mono k⟩
  | _ => trivial

theorem Sim.callFunc {f : FuncId} {x y : Array Value} (h : VRels ν x y) : Sim P ν NxRel (Go.callFunc f x) (Go.callFunc f y) := by
  unfold Go.callFunc
  refine Sim.program ?_
  cases P.funcs[f]? with
  | none => exact Sim.fail rfl
  | some fn =>
    simp only []
    refine Sim.ite (fun _ => Sim.pure fun _ _ => trivial) fun _ => ?_
    refine Sim.ite (fun _ => Sim.fail rfl) fun _ => ?_
    exact Sim.pure fun _ k => ⟨y, rfl, VRels.mono k h⟩

theorem Sim.callMethod (hg : GOk P ν) {r r' : Value} {name : String} {x y : Array Value} (hr : VRel ν r r') (h : VRels ν x y) : Sim P ν NxRel (Go.callMethod r name x) (Go.callMethod r' name y) := by
  unfold Go.callMethod
  cases r <;> first | exact Sim.fail rfl | skip
  · obtain ⟨v', rfl, kv⟩ := iface_rel hr
    simp only []
    refine Sim.program ?_
    refine Sim.bind' (Sim.method hg _ (Nm.le_refl _) kv) ?_
    rintro ν1 e ⟨f, u⟩ ⟨f', u'⟩ ⟨h1, h2⟩
    simp only at h1 h2
    subst h1
    exact Sim.callFunc ((VRels.one h2).append (VRels.mono e h))
  · simp only [VRel] at hr; subst hr; exact Sim.runtimePanic hg _

/-! Ranges over functions. -/
theorem Sim.getLoop {l l' : Nat} {L : Loc} (hl : ν l = some L) (hL : L.blk = l') : Sim P ν LpRel (Instr.getLoop l) (Instr.getLoop l') := by
  unfold Instr.getLoop
  refine Sim.bind' (Sim.getObj hl hL) fun ν1 e o o' k => ?_
  cases o <;> first | exact Sim.fail rfl | skip
  simp only [ORel] at k
  obtain ⟨l', kl, rfl⟩ := k
  refine Sim.pure fun ν2 e2 => ?_
  obtain ⟨a, b, c, d, e, f, g, L, p, q⟩ := kl
  exact ⟨a, b, c, VRels.mono e2 d, e, f, g, L, e2 _ _ p, q⟩

theorem zip_set {ps : List Tmp} : ∀ {x y : List Value} {t u : Array Value}, VRell ν x y → VRels ν t u →
    VRels ν ((ps.zip x).foldl (fun t p => t.setIfInBounds p.1 p.2) t) ((ps.zip y).foldl (fun t p => t.setIfInBounds p.1 p.2) u) := by
  induction ps with
  | nil => intro x y t u _ h; exact h
  | cons p ps ih =>
    intro x y t u hx h
    cases x with
    | nil => simp only [VRell] at hx; subst hx; exact h
    | cons a x =>
      simp only [VRell] at hx
      obtain ⟨b, y', rfl, c, d⟩ := hx
      exact ih d (h.set p c)

theorem Sim.yield {l l' : Nat} {L : Loc} (hl : ν l = some L) (hL : L.blk = l') {x y : Array Value} (h : VRels ν x y) : Sim P ν NxRel (Instr.yield l x) (Instr.yield l' y) := by
  unfold Instr.yield
  refine Sim.bind' (Sim.getLoop hl hL) fun ν1 e r r' k => ?_
  obtain ⟨a, b, c, d, e5, f, g, _⟩ := k
  rw [h.size, e5]
  refine Sim.ite (fun _ => Sim.fail rfl) fun _ => ?_
  show Sim P ν1 NxRel (Pure.pure (Next.round l r.fn ((r.params.zip x).foldl (fun tmps x => match x with | (t, a) => tmps.setIfInBounds t a) r.tmps) r.assign r.body))
    (Pure.pure (Next.round l' r'.fn ((r.params.zip y).foldl (fun tmps x => match x with | (t, a) => tmps.setIfInBounds t a) r'.tmps) r'.assign r'.body))
  refine Sim.pure fun ν2 e2 => ⟨L, (r.params.zip y).foldl (fun tmps x => match x with | (t, a) => tmps.setIfInBounds t a) r'.tmps, Nm.le_trans e e2 _ _ hl, ?_, ?_⟩
  · rw [hL, c, f, g]
  · have hz := zip_set (ν := ν2) (ps := r.params.toList) (VRell.mono (Nm.le_trans e e2) h.toList) (VRels.mono e2 d)
    have conv : ∀ (z : Array Value) (t : Array Value), (r.params.zip z).foldl (fun tmps x => match x with | (t, a) => tmps.setIfInBounds t a) t = (r.params.toList.zip z.toList).foldl (fun t p => t.setIfInBounds p.1 p.2) t := by
      intro z t
      rw [← Array.foldl_toList, Array.toList_zip]
    rw [conv, conv]
    exact hz

theorem LpRel.mono {ν' : Nm} {x y : Loop} (h : LpRel ν x y) (k : ν.le ν') : LpRel ν' x y := by
  obtain ⟨a, b, c, d, e, f, g, L, p, q⟩ := h
  exact ⟨a, b, c, VRels.mono k d, e, f, g, L, k _ _ p, q⟩

theorem Sim.beginRound (hg : GOk P ν) {l l' : Nat} {L : Loc} (hl : ν l = some L) (hL : L.blk = l') : Sim P ν Any (Instr.beginRound l) (Instr.beginRound l') := by
  unfold Instr.beginRound
  refine Sim.bind' (Sim.getLoop hl hL) fun ν1 e r r' k => ?_
  refine Sim.bind' (Sim.setObj (e _ _ hl) hL ⟨{ r' with state := .busy }, ?_, rfl⟩) fun ν2 e2 _ _ _ => ?_
  · obtain ⟨a, b, c, d, e, f, g, h⟩ := k; exact ⟨rfl, b, c, d, e, f, g, h⟩
  · rw [k.1]
    cases r.state <;> first | exact Sim.pure fun _ _ => trivial | exact Sim.runtimePanic (hg.mono (Nm.le_trans e e2)) _

theorem Sim.endRound {l l' : Nat} {L : Loc} (hl : ν l = some L) (hL : L.blk = l') (j : Option Code) : Sim P ν VRel (Instr.endRound l j) (Instr.endRound l' j) := by
  unfold Instr.endRound
  refine Sim.bind' (Sim.getLoop hl hL) fun ν1 e r r' k => ?_
  refine Sim.bind' (Sim.setObj (e _ _ hl) hL ⟨{ r' with state := if j.isNone then .ready else .done, pending := j }, ?_, rfl⟩) fun ν2 e2 _ _ _ => Sim.retV (by simp [VRel])
  obtain ⟨a, b, c, d, e, f, g, h⟩ := k; exact ⟨rfl, rfl, c, d, e, f, g, h⟩

theorem Sim.endLoop (hg : GOk P ν) {l l' : Nat} {L : Loc} (hl : ν l = some L) (hL : L.blk = l') : Sim P ν Eq' (Instr.endLoop l) (Instr.endLoop l') := by
  unfold Instr.endLoop
  refine Sim.bind' (Sim.getLoop hl hL) fun ν1 e r r' k => ?_
  rw [k.1]
  refine Sim.ite (fun _ => Sim.panicBind (hg.mono e) _ _ _) fun _ => ?_
  refine Sim.bind' (Sim.setObj (e _ _ hl) hL ⟨{ r' with state := .exhausted }, ?_, rfl⟩) fun ν2 e2 _ _ _ => ?_
  · obtain ⟨a, b, c, d, e, f, g, h⟩ := k; exact ⟨rfl, b, c, d, e, f, g, h⟩
  · rw [k.2.1]; exact Sim.retE

theorem Sim.takeDeferred {l l' : Nat} {L : Loc} (hl : ν l = some L) (hL : L.blk = l') : Sim P ν (fun ν => LRel (DfRel ν)) (Instr.takeDeferred l) (Instr.takeDeferred l') := by
  unfold Instr.takeDeferred
  refine Sim.bind' (Sim.getObj hl hL) fun ν1 e o o' k => ?_
  cases o <;> first | exact Sim.fail rfl | skip
  rename_i ds
  cases ds with
  | none => exact Sim.fail rfl
  | some ds =>
    simp only [ORel] at k
    obtain ⟨ds', kl, rfl⟩ := k
    refine Sim.bind' (Sim.setObj (e _ _ hl) hL (o' := .deferred none) rfl) fun ν2 e2 _ _ _ => ?_
    exact Sim.pure fun ν3 e3 => kl.mono fun _ _ k => k.mono (Nm.le_trans e2 e3)

def RoRel (ν : Nm) (r r' : Option Nat) : Prop := match r with | none => r' = none | some l => ∃ L, ν l = some L ∧ r' = some L.blk

theorem Sim.enterLoop {fn : FuncId} {x y : Array Value} {ps : Array Tmp} {a b : Code} {r r' : Option Nat} (h : VRels ν x y) (hr : RoRel ν r r') :
    Sim P ν (fun ν p q => (∃ L, ν p.1 = some L ∧ L.blk = q.1) ∧ LRel (DfRel ν) p.2 q.2) (Instr.enterLoop fn x ps a b r) (Instr.enterLoop fn y ps a b r') := by
  unfold Instr.enterLoop
  have fin : ∀ (ν1 : Nm) (d d' : Nat) (m m' : List Deferred), ν.le ν1 → (∃ L, ν1 d = some L ∧ d' = L.blk) → LRel (DfRel ν1) m m' →
      Sim P ν1 (fun ν p q => (∃ L, ν p.1 = some L ∧ L.blk = q.1) ∧ LRel (DfRel ν) p.2 q.2)
        (do Pure.pure (← Go.newObj (.loop { state := .ready, pending := none, fn, tmps := x, params := ps, assign := a, body := b, defers := d }), m))
        (do Pure.pure (← Go.newObj (.loop { state := .ready, pending := none, fn, tmps := y, params := ps, assign := a, body := b, defers := d' }), m')) := by
    intro ν1 d d' m m' e hd hm
    refine Sim.bind' (Sim.newObj (o' := .loop { state := .ready, pending := none, fn, tmps := y, params := ps, assign := a, body := b, defers := d' }) rfl ⟨{ state := .ready, pending := none, fn, tmps := y, params := ps, assign := a, body := b, defers := d' }, ⟨rfl, rfl, rfl, VRels.mono e h, rfl, rfl, rfl, hd⟩, rfl⟩) fun ν2 e2 p q k => ?_
    exact Sim.pure fun ν3 e3 => ⟨⟨_, e3 _ _ k, rfl⟩, hm.mono fun _ _ k => k.mono (Nm.le_trans e2 e3)⟩
  cases r with
  | none =>
    simp only [RoRel] at hr; subst hr
    refine Sim.bind' (Sim.newObj (o := .deferred (some [])) (o' := .deferred (some [])) rfl ⟨[], rfl, rfl⟩) fun ν1 e p q k => ?_
    exact fin ν1 _ _ _ _ e ⟨_, k, rfl⟩ ⟨_, _, rfl, ⟨⟨_, k, rfl⟩, VRels.nil⟩, rfl⟩
  | some l =>
    obtain ⟨L, hL, rfl⟩ := hr
    refine Sim.bind' (Sim.getLoop hL rfl) fun ν1 e p q k => ?_
    exact fin ν1 _ _ _ _ e k.2.2.2.2.2.2.2 rfl

/-! Calls. -/
theorem map_rel' {ρ ρ' : Operand → Value} (h : ∀ x, VRel ν (ρ x) (ρ' x)) (a : Array Operand) : VRels ν (a.map ρ) (a.map ρ') := by
  refine VRels.of_get (by simp) fun i v v' p q => ?_
  simp only [Array.getElem?_map] at p q
  cases hx : a[i]? with
  | none => rw [hx] at p; simp at p
  | some x => rw [hx] at p q; simp at p q; subst p; subst q; exact h x

theorem Sim.ofValue {f f' : Value} {x y : Array Value} (hf : VRel ν f f') (h : VRels ν x y) : Sim P ν (fun ν d e => DfRel ν d e ∧ (match d.target with | .builtin .. => False | _ => True)) (Deferred.ofValue f x) (Deferred.ofValue f' y) := by
  unfold Deferred.ofValue
  cases f <;> first | exact Sim.fail rfl | skip
  · simp only [VRel] at hf
    obtain ⟨g, a, b, h1, h2, h3, rfl⟩ := hf
    exact Sim.pure fun _ k => ⟨⟨⟨g, b, h1.mono k, VRels.mono k h3, rfl⟩, (VRels.mono k h2).append (VRels.mono k h)⟩, trivial⟩
  · simp only [VRel] at hf; subst hf
    exact Sim.pure fun _ k => ⟨⟨rfl, VRels.mono k h⟩, trivial⟩

theorem Sim.invoke (hg : GOk P ν) {d e : Deferred} (h : DfRel ν d e) (hb : match d.target with | .builtin .. => False | _ => True) : Sim P ν NxRel (Go.invoke d.target d.args) (Go.invoke e.target e.args) := by
  obtain ⟨h1, h2⟩ := h
  obtain ⟨t, x⟩ := d
  obtain ⟨u, y⟩ := e
  simp only at h1 h2 hb ⊢
  cases t with
  | nil =>
    simp only [] at h1; subst h1
    show Sim P ν NxRel (Go.runtimePanic .nilDeref) (Go.runtimePanic .nilDeref)
    exact Sim.runtimePanic hg _
  | builtin => exact hb.elim
  | collected r => exact Sim.fail rfl
  | coroexit => exact h1.elim
  | fn f c =>
    obtain ⟨f', c', hf, hc, rfl⟩ := h1
    cases f with
    | func g =>
      simp only [FnRel] at hf; subst hf
      exact Sim.callFunc (h2.append hc)
    | method name =>
      simp only [FnRel] at hf; subst hf
      unfold Go.invoke
      simp only []
      cases hx : x[0]? with
      | none => exact Sim.fail rfl
      | some r =>
        obtain ⟨r', hr, k⟩ := h2.get hx
        rw [hr]
        simp only []
        rw [h2.size]
        exact Sim.callMethod hg k (h2.extract _ _)
    | methodOf t name =>
      simp only [FnRel] at hf; subst hf
      unfold Go.invoke
      simp only []
      cases hx : x[0]? with
      | none => exact Sim.fail rfl
      | some r =>
        obtain ⟨r', hr, k⟩ := h2.get hx
        rw [hr]
        simp only []
        refine Sim.underlying fun dd _ => ?_
        rw [h2.size]
        cases dd <;> first | exact Sim.callMethod hg k (h2.extract _ _) | exact Sim.callMethod hg ⟨_, k, rfl⟩ (h2.extract _ _)
    | via t path g ptr =>
      simp only [FnRel] at hf; subst hf
      unfold Go.invoke
      simp only []
      cases hx : x[0]? with
      | none => exact Sim.fail rfl
      | some r =>
        obtain ⟨r', hr, k⟩ := h2.get hx
        rw [hr]
        simp only []
        refine Sim.bind' (Sim.receiverVia hg k) fun ν1 e1 u u' ku => ?_
        rw [h2.size]
        exact Sim.callFunc ((VRels.one ku).append ((VRels.mono e1 h2).extract _ _))
    | yield l =>
      obtain ⟨L, hL, rfl⟩ := hf
      exact Sim.yield hL rfl h2

theorem Sim.resolve {ρ ρ' : Operand → Value} (h : ∀ x, VRel ν (ρ x) (ρ' x)) (c : Go.Call) (t : TypeId) :
    Sim P ν (fun ν d e => DfRel ν d e ∧ ((∀ b, c.callee ≠ .builtin b) → match d.target with | .builtin .. => False | _ => True)) (Go.resolve ρ c t) (Go.resolve ρ' c t) := by
  unfold Go.resolve
  have ha := map_rel' h c.args
  cases hc : c.callee with
  | builtin b => exact Sim.pure fun _ k => ⟨⟨rfl, VRels.mono k ha⟩, fun h => absurd rfl (h b)⟩
  | invoke r name => exact Sim.pure fun _ k => ⟨⟨⟨_, _, rfl, VRels.nil, rfl⟩, (VRels.one ((h r).mono k)).append (VRels.mono k ha)⟩, fun _ => trivial⟩
  | value f => exact (Sim.ofValue (h f) ha).conseq fun _ _ _ k => ⟨k.1, fun _ => k.2⟩

/-! Every operation. -/
theorem Sim.toV {α β : Type} {A : Nm → α → β → Prop} {B : Nm → Next → Next → Prop} {q : Sem α} {q' : Sem β} {f : α → Next} {f' : β → Next} (h : Sim P ν A q q') (k : ∀ ν1 a b, A ν1 a b → ∀ ν2, ν1.le ν2 → B ν2 (f a) (f' b)) :
    Sim P ν B (do Pure.pure (f (← q))) (do Pure.pure (f' (← q'))) :=
  Sim.bind' h fun ν1 _ a b kab => Sim.pure fun ν2 e2 => k ν1 a b kab ν2 e2
theorem Sim.v {q q' : Sem Value} (h : Sim P ν VRel q q') : Sim P ν NxRel (do Pure.pure (.value (← q))) (do Pure.pure (.value (← q'))) :=
  Sim.toV h fun _ _ b k _ e2 => ⟨b, rfl, k.mono e2⟩
theorem Sim.u {q q' : Sem Unit} (h : Sim P ν Any q q') : Sim P ν NxRel (do q; Pure.pure .skip) (do q'; Pure.pure .skip) :=
  Sim.bind' h fun _ _ _ _ _ => Sim.pure fun _ _ => rfl

theorem ORl.map {ρ ρ' : Operand → Value} (h : ∀ x, VRel ν (ρ x) (ρ' x)) (x : Option Operand) : ORl ν (x.map ρ) (x.map ρ') := by
  cases x with
  | none => rfl
  | some x => exact ⟨_, rfl, h x⟩

theorem Sim.nilCheck (hg : GOk P ν) {x x' : Value} (h : VRel ν x x') (hm : nilOk x = true) : Sim P ν NxRel
    (match (generalizing := false) x with
    | .pointer none | .nilIface | .nilFunc => Go.runtimePanic .nilDeref
    | .func (.method name) first captured =>
      match (first[0]? : Option Value) with
      | some .nilIface => Go.runtimePanic .nilDeref
      | some (.iface t w) => do
        if (← nilAhead ((← Go.program).types.size + Made.depth) t w name) != some false then
          Go.unsupported (.noEntry "op/nilCheck.the method's receiver behind this interface value is a nil pointer, or cannot be seen to be none, and the arguments act or may panic (ledger 612)")
        Pure.pure (.value (.func (.method name) first captured))
      | _ => Pure.pure (.value (.func (.method name) first captured))
    | x => Pure.pure (.value x))
    (match (generalizing := false) x' with
    | .pointer none | .nilIface | .nilFunc => Go.runtimePanic .nilDeref
    | .func (.method name) first captured =>
      match (first[0]? : Option Value) with
      | some .nilIface => Go.runtimePanic .nilDeref
      | some (.iface t w) => do
        if (← nilAhead ((← Go.program).types.size + Made.depth) t w name) != some false then
          Go.unsupported (.noEntry "op/nilCheck.the method's receiver behind this interface value is a nil pointer, or cannot be seen to be none, and the arguments act or may panic (ledger 612)")
        Pure.pure (.value (.func (.method name) first captured))
      | _ => Pure.pure (.value (.func (.method name) first captured))
    | x => Pure.pure (.value x)) := by
  have val : ∀ v v', VRel ν v v' → Sim P ν NxRel (Pure.pure (Next.value v)) (Pure.pure (Next.value v')) := fun v v' k => Sim.pure fun _ e => ⟨_, rfl, k.mono e⟩
  cases x with
  | pointer a =>
    cases a with
    | none => simp only [VRel] at h; subst h; exact Sim.runtimePanic hg _
    | some a => have h0 := h; simp only [VRel] at h; obtain ⟨b, k, rfl⟩ := h; exact val _ _ h0
  | nilIface => simp only [VRel] at h; subst h; exact Sim.runtimePanic hg _
  | nilFunc => simp only [VRel] at h; subst h; exact Sim.runtimePanic hg _
  | func f a b =>
    have h0 := h
    simp only [VRel] at h
    obtain ⟨f', a', b', h1, h2, h3, rfl⟩ := h
    cases f <;> simp only [FnRel] at h1 <;> first | (simp [nilOk] at hm; done) | (subst h1; exact val _ _ h0) | (obtain ⟨L, _, rfl⟩ := h1; exact val _ _ h0)
  | slice a l c => obtain ⟨_, _, rfl, _⟩ := slc_rel h; exact val _ _ h
  | map a => obtain ⟨_, rfl, _⟩ := map_rel h; exact val _ _ h
  | chan a =>
    cases a with
    | none => have h0 := h; simp only [VRel] at h; subst h; exact val _ _ h0
    | some a => simp [VRel] at h
  | iface t x => obtain ⟨_, rfl, _⟩ := iface_rel h; exact val _ _ h
  | agg x => obtain ⟨_, rfl, _⟩ := agg_rel h; exact val _ _ h
  | tuple x => have h0 := h; simp only [VRel] at h; obtain ⟨_, _, rfl⟩ := h; exact val _ _ h0
  | _ => have h0 := h; simp only [VRel] at h; subst h; exact val _ _ h0

theorem Sim.execOp (hg : GOk P ν) (hz : ZeroOk P) {ρ ρ' : Operand → Value} (h : ∀ x, VRel ν (ρ x) (ρ' x)) (o : Oper) (hc : capOk P ρ o = true) :
    Sim P ν NxRel (Go.execOp ρ o) (Go.execOp ρ' o) := by
  unfold Go.execOp
  cases ho : o.op <;> simp only [capOk, ho] at hc <;> first | (simp at hc; done) | skip
  case move x => exact Sim.pure fun _ e => ⟨_, rfl, (h x).mono e⟩
  case assign x => exact Sim.pure fun _ e => ⟨_, rfl, (h x).mono e⟩
  case pick c a b =>
    refine Sim.bind' (Sim.asBool (h c)) fun ν1 e x y k => ?_
    subst k
    refine Sim.pure fun ν2 e2 => ⟨_, rfl, ?_⟩
    cases y
    · exact (h b).mono (Nm.le_trans e e2)
    · exact (h a).mono (Nm.le_trans e e2)
  case alloc e => exact Sim.v (Sim.alloc hz)
  case box e x => exact Sim.v (Sim.box (h x))
  case build t ps => exact Sim.v (Sim.build hz (parts_rel h))
  case buildSlice t n ps => exact Sim.v (Sim.buildSlice hz (parts_rel h) (by simpa using hc))
  case insert t m k x => exact Sim.u (Sim.mapUpdate hg (h m) (h k) hc (h x))
  case load t a => exact Sim.v (Sim.loadAt (h a))
  case store t a x => exact Sim.u (Sim.storeAt (h a) (h x))
  case nilCheck x => exact Sim.nilCheck hg (h x) hc
  case binOp op t x y _ =>
    refine Sim.v ?_
    exact Sim.bind' (Sim.eqGuard op (h x) (h y)) fun ν1 e _ _ _ => Sim.binOp (hg.mono e) op ((h x).mono e) ((h y).mono e) hc
  case unOp op _ x => exact Sim.v (Sim.unary (h x) hc)
  case convert s d x => exact Sim.v (Sim.convert (h x) hc)
  case makeInterface t x => exact Sim.v (Sim.makeInterface (h x))
  case makeFunc f a b => exact Sim.v (Sim.makeFunc (by intro l e; subst e; simp at hc) (map_rel' h a) (map_rel' h b))
  case makeMap t r => exact Sim.v (Sim.makeMap (ORl.map h r))
  case makeSlice t l c =>
    refine Sim.v (Sim.makeSlice hg hz (h l) (h c) fun k n e => ?_)
    rw [e] at hc
    simpa using hc
  case slice t x lo hi mx =>
    simp only [Bool.and_eq_true] at hc
    refine Sim.v (Sim.sliceAt hg (h x) (ORl.map h lo) (ORl.map h hi) (ORl.map h mx) hc.2 (fun a ha n e he => ?_) fun n e he => ?_)
    · have := hc.1; rw [ha] at this; simp only [he] at this; simpa using this
    · have := hc.1; rw [he] at this; simpa using this
  case fieldAddr s x f => exact Sim.v (Sim.fieldAt (h x) f)
  case field t x f => exact Sim.v (Sim.field (h x) f)
  case indexAddr t x i => exact Sim.v (Sim.indexAt hg (h x) (h i))
  case index t x i => exact Sim.v (Sim.index hg (h x) (h i))
  case lookup t x i c => exact Sim.v (Sim.lookup hg hz (h x) (h i) hc)
  case mapUpdate t m k x => exact Sim.u (Sim.mapUpdate hg (h m) (h k) hc (h x))
  case range t x => exact Sim.v (Sim.rangeStr (h x) (by simpa using hc))
  case next it is => subst hc; exact Sim.v (Sim.nextStr (h it))
  case typeAssert x t u c => exact Sim.v (Sim.typeAssert hg hz (h x))
  case extract t i => exact Sim.v (Sim.extract (h t) i)
  case panic x => exact Sim.v (Sim.panic hg (h x))
  case defer c => exact Sim.toV (Sim.resolve h c o.type) fun ν1 a b k ν2 e2 => ⟨b, rfl, k.1.mono e2⟩
  case call c =>
    obtain ⟨callee, args, ts⟩ := c
    cases callee with
    | value f => exact Sim.bind' (Sim.resolve h _ o.type) fun ν1 e d d' k => Sim.invoke (hg.mono e) k.1 (k.2 (by simp))
    | invoke r name => exact Sim.bind' (Sim.resolve h _ o.type) fun ν1 e d d' k => Sim.invoke (hg.mono e) k.1 (k.2 (by simp))
    | builtin b =>
      have ha := map_rel' h args
      have mem : ∀ (p : Value → Bool), (args.all fun x => p (ρ x)) = true → ∀ v ∈ (args.map ρ).toList, p v = true := by
        intro p hp v hv
        simp only [Array.toList_map, List.mem_map] at hv
        obtain ⟨x, hx, rfl⟩ := hv
        rw [Array.all_eq_true'] at hp
        exact hp x (by simpa using hx)
      cases b <;> simp only [] at hc <;> first | (simp at hc; done) | skip
      case len => exact Sim.v (Sim.len ha)
      case copy => exact Sim.v (Sim.copy ha)
      case cap =>
        refine Sim.v (Sim.cap ha fun x hx => ?_)
        have := mem (fun v => match v with | .slice _ _ c => decide (c < OPEN) | _ => true) hc x (by rw [← Array.getElem?_toList] at hx; exact List.mem_of_getElem? hx)
        cases x <;> first | trivial | simpa using this
      case delete =>
        refine Sim.v (Sim.delete hg ha fun k hk => ?_)
        simp only [Array.getElem?_map] at hk
        cases hx : args[1]? with
        | none => rw [hx] at hk; simp at hk
        | some x => rw [hx] at hk hc; simp at hk; subst hk; simpa using hc
      case max => exact Sim.v (Sim.max ha fun x hx => by have := mem (fun v => tag v == 1 || tag v == 4) hc x hx; simpa using this)
      case min => exact Sim.v (Sim.min ha fun x hx => by have := mem (fun v => tag v == 1 || tag v == 4) hc x hx; simpa using this)
      case panic =>
        refine Sim.v (Sim.panic hg ?_)
        show VRel ν ((args.map ρ).getD 0 .nilIface) ((args.map ρ').getD 0 .nilIface)
        rw [Array.getD_eq_getD_getElem?, Array.getD_eq_getD_getElem?]
        cases hx : (args.map ρ)[0]? with
        | none => rw [ha.get_none hx]; simp [VRel]
        | some v => obtain ⟨v', e, k⟩ := ha.get hx; rw [e]; exact k
end
end Go.Dee
