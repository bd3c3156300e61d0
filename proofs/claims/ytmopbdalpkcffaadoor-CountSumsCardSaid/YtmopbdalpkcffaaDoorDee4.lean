/- Dee, part 4: the operations, each followed by the world's. -/
import Derived.Test.YtmopbdalpkcffaaDoorDee3
namespace Go.Dee
open Go
section
variable {P : Program} {ν : Nm}

abbrev Any {α β : Type} : Nm → α → β → Prop := fun _ _ _ => True
abbrev Eq' {α : Type} : Nm → α → α → Prop := fun _ a b => b = a

theorem Sim.bind' {α β γ δ : Type} {A : Nm → α → β → Prop} {B : Nm → γ → δ → Prop} {q : Sem α} {q' : Sem β} {f : α → Sem γ} {f' : β → Sem δ}
    (h : Sim P ν A q q') (k : ∀ ν1, ν.le ν1 → ∀ a b, A ν1 a b → Sim P ν1 B (f a) (f' b)) : Sim P ν B (q >>= f) (q' >>= f') := Sim.bind h k

theorem Sim.ret {α β : Type} {A : Nm → α → β → Prop} {a : α} {b : β} (h : ∀ ν1, ν.le ν1 → A ν1 a b) : Sim P ν A (Pure.pure a : Sem α) (Pure.pure b : Sem β) := Sim.pure h
theorem Sim.retV {a b : Value} (h : VRel ν a b) : Sim P ν VRel (Pure.pure a : Sem Value) (Pure.pure b : Sem Value) := Sim.pure fun _ k => h.mono k
theorem Sim.retE {α : Type} {a : α} : Sim P ν Eq' (Pure.pure a : Sem α) (Pure.pure a : Sem α) := Sim.pure fun _ _ => rfl

theorem Sim.underlying {α β : Type} {A : Nm → α → β → Prop} {t : TypeId} {f : TypeDesc → Sem α} {f' : TypeDesc → Sem β}
    (h : ∀ d, P.underlying t = some d → Sim P ν A (f d) (f' d)) : Sim P ν A (Go.underlying t >>= f) (Go.underlying t >>= f') := by
  show Sim P ν A ((match P.underlying t with | some d => Pure.pure d | none => Go.stuck "no such type" : Sem TypeDesc).bind f) ((match P.underlying t with | some d => Pure.pure d | none => Go.stuck "no such type" : Sem TypeDesc).bind f')
  cases hd : P.underlying t with
  | none => exact Sim.fail rfl
  | some d => exact h d hd
theorem Sim.typeInfo {α β : Type} {A : Nm → α → β → Prop} {t : TypeId} {f : TypeInfo → Sem α} {f' : TypeInfo → Sem β}
    (h : ∀ d, P.info? t = some d → Sim P ν A (f d) (f' d)) : Sim P ν A (Go.typeInfo t >>= f) (Go.typeInfo t >>= f') := by
  show Sim P ν A ((match P.info? t with | some d => Pure.pure d | none => Go.stuck "no such type" : Sem TypeInfo).bind f) ((match P.info? t with | some d => Pure.pure d | none => Go.stuck "no such type" : Sem TypeInfo).bind f')
  cases hd : P.info? t with
  | none => exact Sim.fail rfl
  | some d => exact h d hd
theorem Sim.sizeOf {α β : Type} {A : Nm → α → β → Prop} {t : TypeId} {f : Nat → Sem α} {f' : Nat → Sem β}
    (h : ∀ d, P.info? t = some d → Sim P ν A (f d.size) (f' d.size)) : Sim P ν A (Go.sizeOf t >>= f) (Go.sizeOf t >>= f') := by
  show Sim P ν A ((Sem.bind (Go.typeInfo t) fun i => Pure.pure i.size).bind f) ((Sem.bind (Go.typeInfo t) fun i => Pure.pure i.size).bind f')
  show Sim P ν A (((match P.info? t with | some d => Pure.pure d | none => Go.stuck "no such type" : Sem TypeInfo).bind fun i => Pure.pure i.size).bind f) (((match P.info? t with | some d => Pure.pure d | none => Go.stuck "no such type" : Sem TypeInfo).bind fun i => Pure.pure i.size).bind f')
  cases hd : P.info? t with
  | none => exact Sim.fail rfl
  | some d => exact h d hd
theorem Sim.isAgg {α β : Type} {A : Nm → α → β → Prop} {t : TypeId} {f : Bool → Sem α} {f' : Bool → Sem β}
    (h : ∀ b, Sim P ν A (f b) (f' b)) : Sim P ν A (Go.isAgg t >>= f) (Go.isAgg t >>= f') := by
  unfold Go.isAgg
  show Sim P ν A (Sem.bind (Sem.bind (Go.underlying t) _) f) (Sem.bind (Sem.bind (Go.underlying t) _) f')
  show Sim P ν A (Sem.bind (Sem.bind (match P.underlying t with | some d => Pure.pure d | none => Go.stuck "no such type" : Sem TypeDesc) _) f) (Sem.bind (Sem.bind (match P.underlying t with | some d => Pure.pure d | none => Go.stuck "no such type" : Sem TypeDesc) _) f')
  cases hd : P.underlying t with
  | none => exact Sim.fail rfl
  | some d => cases d <;> exact h _

/-- Zero values bear no addresses. -/
def ZeroOk (P : Program) : Prop := ∀ t i v, P.info? t = some i → i.zero = some v → ∀ ν, VRel ν v v
def GOk (P : Program) (ν : Nm) : Prop := ∀ g, g ≤ P.globals.size → ν g = some ⟨g, 0, 0⟩
theorem GOk.mono {ν' : Nm} (h : GOk P ν) (k : ν.le ν') : GOk P ν' := fun g hg => k _ _ (h g hg)

theorem Sim.zeroValue {α β : Type} {A : Nm → α → β → Prop} {t : TypeId} {f : Value → Sem α} {f' : Value → Sem β} (hz : ZeroOk P)
    (h : ∀ i v, P.info? t = some i → i.zero = some v → VRel ν v v → Sim P ν A (f v) (f' v)) : Sim P ν A (Go.zeroValue t >>= f) (Go.zeroValue t >>= f') := by
  unfold Go.zeroValue
  show Sim P ν A (Sem.bind (Sem.bind (match P.info? t with | some d => Pure.pure d | none => Go.stuck "no such type" : Sem TypeInfo) _) f) (Sem.bind (Sem.bind (match P.info? t with | some d => Pure.pure d | none => Go.stuck "no such type" : Sem TypeInfo) _) f')
  cases hd : P.info? t with
  | none => exact Sim.fail rfl
  | some d =>
    cases hv : d.zero with
    | none =>
      refine Sim.fail ?_
      show emb P (Sem.bind (match d.zero with | some v => Pure.pure v | none => Go.unsupported _ : Sem Value) f) = _
      rw [hv]; rfl
    | some v =>
      show Sim P ν A (Sem.bind (match d.zero with | some v => Pure.pure v | none => Go.unsupported _ : Sem Value) f) (Sem.bind (match d.zero with | some v => Pure.pure v | none => Go.unsupported _ : Sem Value) f')
      rw [hv]
      exact h d v hd hv (hz t d v hd hv ν)

theorem Sim.goPanic {α β : Type} {A : Nm → α → β → Prop} {v v' : Value} (h : VRel ν v v') : Sim P ν A (Go.goPanic v : Sem α) (Go.goPanic v' : Sem β) := by
  intro ν1 hν s w r s' hR hrun hF
  obtain ⟨rfl, rfl⟩ := pure_some (a := Except.error v) hrun
  exact ⟨ν1, v', w, rfl, hR, Fr.refl _ _ _, h.mono hν⟩

theorem VRell.refl_of : ∀ {l : List Value}, (∀ v ∈ l, VRel ν v v) → VRell ν l l
  | [], _ => by simp [VRell]
  | a :: l, h => ⟨a, l, rfl, h a (by simp), VRell.refl_of fun v hv => h v (by simp [hv])⟩

theorem VRell.append {x y x' y' : List Value} (h : VRell ν x y) (k : VRell ν x' y') : VRell ν (x ++ x') (y ++ y') := by
  induction x generalizing y with
  | nil => simp only [VRell] at h; subst h; exact k
  | cons a x ih =>
    simp only [VRell] at h
    obtain ⟨b, y1, rfl, p, q⟩ := h
    exact ⟨b, y1 ++ y', rfl, p, ih q⟩
theorem VRell.length {x y : List Value} (h : VRell ν x y) : y.length = x.length := (VRell.get h).1.symm
theorem VRell.of_get {x y : List Value} (hl : x.length = y.length) (h : ∀ (i : Nat) (v v' : Value), x[i]? = some v → y[i]? = some v' → VRel ν v v') : VRell ν x y := by
  induction x generalizing y with
  | nil => cases y <;> simp_all [VRell]
  | cons a x ih =>
    cases y with
    | nil => simp at hl
    | cons b y =>
      exact ⟨b, y, rfl, h 0 a b rfl rfl, ih (by simpa using hl) fun i v v' p q => h (i + 1) v v' (by simpa using p) (by simpa using q)⟩
theorem VRels.size {x y : Array Value} (h : VRels ν x y) : y.size = x.size := by
  have := VRell.length h.toList; simpa using this
theorem VRels.push {x y : Array Value} {a b : Value} (h : VRels ν x y) (k : VRel ν a b) : VRels ν (x.push a) (y.push b) := by
  have : VRell ν (x.toList ++ [a]) (y.toList ++ [b]) := h.toList.append ⟨b, [], rfl, k, rfl⟩
  cases x; cases y
  simpa [VRels] using this
theorem VRels.get {x y : Array Value} (h : VRels ν x y) {i : Nat} {v : Value} (hv : x[i]? = some v) : ∃ v', y[i]? = some v' ∧ VRel ν v v' := by
  have := (VRell.get h.toList).2 i v (by simpa using hv)
  simpa using this
theorem VRels.get_none {x y : Array Value} (h : VRels ν x y) {i : Nat} (hv : x[i]? = none) : y[i]? = none := by
  have := h.size
  simp at hv ⊢; omega
theorem VRels.of_get {x y : Array Value} (hl : x.size = y.size) (h : ∀ (i : Nat) (v v' : Value), x[i]? = some v → y[i]? = some v' → VRel ν v v') : VRels ν x y := by
  cases x; cases y
  exact VRell.of_get (by simpa using hl) fun i v v' p q => h i v v' (by simpa using p) (by simpa using q)
theorem VRels.set {x y : Array Value} {a b : Value} (h : VRels ν x y) (i : Nat) (k : VRel ν a b) : VRels ν (x.setIfInBounds i a) (y.setIfInBounds i b) := by
  refine VRels.of_get (by simp [h.size]) fun j v v' p q => ?_
  rw [Array.getElem?_setIfInBounds] at p q
  rw [h.size] at q
  by_cases hij : i = j
  · simp only [hij, if_true] at p q
    split at p
    · rename_i hj
      rw [if_pos hj] at q
      simp at p q; subst p; subst q; exact k
    · simp at p
  · simp only [hij, if_false] at p q
    obtain ⟨v2, r, t⟩ := h.get p
    rw [r] at q; simp at q; subst q; exact t
theorem VRels.extract {x y : Array Value} (h : VRels ν x y) (i j : Nat) : VRels ν (x.extract i j) (y.extract i j) := by
  refine VRels.of_get (by simp [h.size]) fun k v v' p q => ?_
  rw [Array.getElem?_extract] at p q
  rw [h.size] at q
  split at p
  · rename_i hk
    rw [if_pos hk] at q
    obtain ⟨v2, r, t⟩ := h.get p
    rw [r] at q; simp at q; subst q; exact t
  · simp at p
theorem VRels.append {x y x' y' : Array Value} (h : VRels ν x y) (k : VRels ν x' y') : VRels ν (x ++ x') (y ++ y') := by
  have := VRell.append h.toList k.toList
  cases x; cases y; cases x'; cases y'
  simpa [VRels] using this
theorem VRels.nil : VRels ν #[] #[] := by simp [VRels, VRell]
theorem VRels.one {a b : Value} (h : VRel ν a b) : VRels ν #[a] #[b] := ⟨b, [], rfl, h, rfl⟩
theorem VRels.ofList {x y : List Value} (h : VRell ν x y) : VRels ν x.toArray y.toArray := h

theorem VRel.cells {v v' : Value} (h : VRel ν v v') : VRels ν v.cells v'.cells := by
  cases v <;> simp only [Value.cells]
  case agg x => simp only [VRel] at h; obtain ⟨x', k, rfl⟩ := h; exact k
  case pointer a => cases a <;> (have h0 := h; simp only [VRel] at h) <;> first | (subst h; exact VRels.one h0) | (obtain ⟨_, _, rfl⟩ := h; exact VRels.one h0)
  case slice a l c => cases a <;> (have h0 := h; simp only [VRel] at h) <;> first | (obtain ⟨_, rfl⟩ := h; exact VRels.one h0) | (obtain ⟨_, _, _, _, rfl⟩ := h; exact VRels.one h0)
  case map a => cases a <;> (have h0 := h; simp only [VRel] at h) <;> first | (subst h; exact VRels.one h0) | (obtain ⟨_, _, rfl⟩ := h; exact VRels.one h0)
  case chan a =>
    cases a with
    | none => have h0 := h; simp only [VRel] at h; subst h; exact VRels.one h0
    | some a => simp [VRel] at h
  case func => have h0 := h; simp only [VRel] at h; obtain ⟨_, _, _, _, _, _, rfl⟩ := h; exact VRels.one h0
  case iface => have h0 := h; simp only [VRel] at h; obtain ⟨_, _, rfl⟩ := h; exact VRels.one h0
  case tuple => have h0 := h; simp only [VRel] at h; obtain ⟨_, _, rfl⟩ := h; exact VRels.one h0
  all_goals (have h0 := h; simp only [VRel] at h; subst h; exact VRels.one h0)

theorem ARel.add {a b : Addr} (h : ARel ν a b) (n : Nat) : ARel ν (a.add n) (b.add n) := by
  obtain ⟨h1, L, h2, rfl⟩ := h
  unfold Addr.add
  split
  · exact ⟨h1, L, h2, rfl⟩
  · exact ⟨rfl, L, h2, by simp [Nat.add_assoc]⟩

theorem Sim.loadCellsFrom {a b : Addr} (h : ARel ν a b) : ∀ (n i : Nat) (acc acc' : Array Value), VRels ν acc acc' → Sim P ν (fun ν => VRels ν) (Go.loadCellsFrom a i n acc) (Go.loadCellsFrom b i n acc') := by
  intro n
  induction n generalizing ν with
  | zero => intro i acc acc' k; exact Sim.pure fun _ e => VRels.mono e k
  | succ n ih =>
    intro i acc acc' k
    exact Sim.bind' (Sim.load (h.add i)) fun ν1 e v v' hv => ih (h.mono e) (i + 1) _ _ (VRels.push (VRels.mono e k) hv)
theorem Sim.loadCells {a b : Addr} (h : ARel ν a b) (n : Nat) : Sim P ν (fun ν => VRels ν) (Go.loadCells a n) (Go.loadCells b n) := Sim.loadCellsFrom h n 0 _ _ VRels.nil
theorem Sim.storeCells {a b : Addr} (h : ARel ν a b) : ∀ (vs ws : List Value) (i : Nat), VRell ν vs ws → Sim P ν Any (Go.storeCells a vs i) (Go.storeCells b ws i) := by
  intro vs
  induction vs generalizing ν with
  | nil => intro ws i k; simp only [VRell] at k; subst k; exact Sim.pure fun _ _ => trivial
  | cons v vs ih =>
    intro ws i k
    simp only [VRell] at k
    obtain ⟨v', ws', rfl, p, q⟩ := k
    exact Sim.bind' (Sim.store (h.add i) p) fun ν1 e _ _ _ => ih (h.mono e) ws' (i + 1) (VRell.mono e q)
theorem Sim.loadVar {t : TypeId} {a b : Addr} (h : ARel ν a b) : Sim P ν VRel (Go.loadVar t a) (Go.loadVar t b) := by
  unfold Go.loadVar
  refine Sim.isAgg fun x => ?_
  cases x
  · exact Sim.load h
  · refine Sim.sizeOf fun d _ => ?_
    refine Sim.bind' (Sim.loadCells h _) fun ν1 e x y k => Sim.pure fun ν2 e2 => ⟨y, VRels.mono e2 k, rfl⟩
theorem Sim.storeVar {t : TypeId} {a b : Addr} {v v' : Value} (h : ARel ν a b) (hv : VRel ν v v') : Sim P ν Any (Go.storeVar t a v) (Go.storeVar t b v') := by
  unfold Go.storeVar
  refine Sim.sizeOf fun d _ => ?_
  rw [hv.cells.size]
  split
  · exact Sim.stuck
  · exact Sim.storeCells h _ _ _ hv.cells.toList
theorem Sim.newRow {e : TypeId} {x y : Array Value} (h : VRels ν x y) : Sim P ν (fun ν a b => ARel ν a b ∧ ∃ L, ν a.block = some L ∧ L.base = 0 ∧ a.off = 0 ∧ b = ⟨L.blk, 0, none⟩) (Go.newRow e x) (Go.newRow e y) := by
  unfold Go.newRow
  refine Sim.bind' (Sim.newCells h) fun ν1 e r r' k => Sim.pure fun ν2 e2 => ?_
  obtain ⟨sl, k⟩ := k
  exact ⟨⟨rfl, _, e2 _ _ k, rfl⟩, _, e2 _ _ k, rfl, rfl, rfl⟩
theorem Sim.newVar {t : TypeId} {v v' : Value} (h : VRel ν v v') : Sim P ν ARel (Go.newVar t v) (Go.newVar t v') :=
  (Sim.newRow h.cells).conseq fun _ _ _ k => k.1

theorem Sim.elemOf {α β : Type} {A : Nm → α → β → Prop} {t : TypeId} {f : TypeId → Sem α} {f' : TypeId → Sem β}
    (h : ∀ e, Sim P ν A (f e) (f' e)) : Sim P ν A (Go.elemOf t >>= f) (Go.elemOf t >>= f') := by
  unfold Go.elemOf
  show Sim P ν A (Sem.bind (Sem.bind (match P.underlying t with | some d => Pure.pure d | none => Go.stuck "no such type" : Sem TypeDesc) _) f) (Sem.bind (Sem.bind (match P.underlying t with | some d => Pure.pure d | none => Go.stuck "no such type" : Sem TypeDesc) _) f')
  cases hd : P.underlying t with
  | none => exact Sim.fail rfl
  | some d => cases d <;> first | exact h _ | exact Sim.fail rfl

theorem handle_rel (hg : GOk P ν) (t : TypeId) : VRel ν (typeHandle P t) (typeHandle P t) := by
  refine ⟨_, ⟨rfl, _, hg _ (Nat.le_refl _), rfl⟩, ?_⟩
  simp [typeHandle]

theorem Sim.runtimePanic {α β : Type} {A : Nm → α → β → Prop} (hg : GOk P ν) (e : RuntimeError) : Sim P ν A (Go.runtimePanic e : Sem α) (Go.runtimePanic e : Sem β) := by
  unfold Go.runtimePanic
  refine Sim.program ?_
  cases e with
  | bounds x y s c => exact Sim.goPanic (by simp [VRel, VRels, VRell])
  | error m => exact Sim.goPanic (by simp [VRel, strVal])
  | plain m => exact Sim.goPanic (by simp [VRel, strVal])
  | nilDeref => exact Sim.goPanic (by simp [VRel, strVal])
  | typeAssertion i c a m =>
    refine Sim.elemOf fun e => ?_
    refine Sim.bind' (Sim.newVar ?_) fun ν1 e r r' k => Sim.goPanic ⟨_, ⟨r', k, rfl⟩, rfl⟩
    refine ⟨_, ?_, rfl⟩
    have hh : ∀ x : Option TypeId, VRel ν (match x with | some t => typeHandle P t | none => .pointer none) (match x with | some t => typeHandle P t | none => .pointer none) := by
      intro x; cases x
      · simp [VRel]
      · exact handle_rel hg _
    exact ⟨_, _, rfl, hh i, _, _, rfl, hh c, _, _, rfl, hh (some a), _, _, rfl, by simp [VRel, strVal], rfl⟩
  | panicNil =>
    refine Sim.elemOf fun e => ?_
    exact Sim.bind' (Sim.newVar (by simp [VRel, VRels, VRell])) fun ν1 e r r' k => Sim.goPanic ⟨_, ⟨r', k, rfl⟩, rfl⟩
  | unhashable t => exact Sim.goPanic ⟨_, ⟨_, ⟨_, _, rfl, handle_rel hg t, rfl⟩, rfl⟩, rfl⟩

theorem Sim.boundsPanic {α β : Type} {A : Nm → α → β → Prop} (hg : GOk P ν) (k : IntKind) (x y : Int) (c : BoundsCode) : Sim P ν A (Go.boundsPanic k x y c : Sem α) (Go.boundsPanic k x y c : Sem β) := by
  unfold Go.boundsPanic
  split
  · exact Sim.fail rfl
  · show Sim P ν A (Go.runtimePanic (.bounds (IntKind.i64.wrap x) y (k != .u64) c)) (Go.runtimePanic (.bounds (IntKind.i64.wrap x) y (k != .u64) c))
    exact Sim.runtimePanic hg _

theorem Sim.asIntOf {v v' : Value} (h : VRel ν v v') : Sim P ν Eq' (Go.asIntOf v) (Go.asIntOf v') := by
  cases v <;> first | exact Sim.fail rfl | (simp only [VRel] at h; subst h; exact Sim.retE) | skip
  case pointer a => cases a <;> exact Sim.fail rfl
theorem Sim.asInt {v v' : Value} (h : VRel ν v v') : Sim P ν Eq' (Go.asInt v) (Go.asInt v') := by
  unfold Go.asInt
  exact Sim.bind' (Sim.asIntOf h) fun ν1 e a b k => by subst k; exact Sim.retE
theorem Sim.asBool {v v' : Value} (h : VRel ν v v') : Sim P ν Eq' (Go.asBool v) (Go.asBool v') := by
  cases v <;> first | exact Sim.fail rfl | (simp only [VRel] at h; subst h; exact Sim.retE)
theorem Sim.asAgg {v v' : Value} (h : VRel ν v v') : Sim P ν (fun ν => VRels ν) (Go.asAgg v) (Go.asAgg v') := by
  cases v <;> first | exact Sim.fail rfl | skip
  case agg x => simp only [VRel] at h; obtain ⟨x', k, rfl⟩ := h; exact Sim.pure fun _ e => VRels.mono e k
theorem Sim.sureAddr {v v' : Value} (h : VRel ν v v') : Sim P ν ARel (Instr.sureAddr v) (Instr.sureAddr v') := by
  cases v <;> first | exact Sim.fail rfl | skip
  case pointer a =>
    cases a with
    | none => exact Sim.fail rfl
    | some a => simp only [VRel] at h; obtain ⟨b, k, rfl⟩ := h; exact Sim.pure fun _ e => k.mono e
theorem Sim.asAddr (hg : GOk P ν) {v v' : Value} (h : VRel ν v v') : Sim P ν ARel (Go.asAddr v) (Go.asAddr v') := by
  cases v <;> first | exact Sim.fail rfl | skip
  case pointer a =>
    cases a with
    | none => simp only [VRel] at h; subst h; show Sim P ν ARel (Go.runtimePanic .nilDeref) (Go.runtimePanic .nilDeref); exact Sim.runtimePanic hg _
    | some a => simp only [VRel] at h; obtain ⟨b, k, rfl⟩ := h; exact Sim.pure fun _ e => k.mono e

theorem Sim.part {t : TypeId} {x y : Array Value} (h : VRels ν x y) (off : Nat) : Sim P ν VRel (Go.part t x off) (Go.part t y off) := by
  unfold Go.part
  refine Sim.isAgg fun b => ?_
  cases b
  · simp only [Bool.false_eq_true, if_false]
    cases hx : x[off]? with
    | none => exact Sim.stuck
    | some v =>
      obtain ⟨v', p, q⟩ := h.get hx
      rw [p]
      exact Sim.retV q
  · simp only [if_true]
    refine Sim.sizeOf fun d _ => ?_
    exact Sim.retV ⟨_, h.extract _ _, rfl⟩

theorem Sim.alloc (hz : ZeroOk P) {e : TypeId} : Sim P ν VRel (Instr.alloc e true (.tuple #[])) (Instr.alloc e true (.tuple #[])) := by
  unfold Instr.alloc
  refine Sim.zeroValue hz fun i v _ _ hv => ?_
  exact Sim.bind' (Sim.newVar hv) fun ν1 e a b k => Sim.retV ⟨b, k, rfl⟩
theorem Sim.box {e : TypeId} {v v' : Value} (h : VRel ν v v') : Sim P ν VRel (Instr.box e v) (Instr.box e v') := by
  unfold Instr.box
  exact Sim.bind' (Sim.newVar h) fun ν1 e a b k => Sim.retV ⟨b, k, rfl⟩
theorem Sim.loadAt {t : TypeId} {v v' : Value} (h : VRel ν v v') : Sim P ν VRel (Instr.loadAt t v) (Instr.loadAt t v') := by
  unfold Instr.loadAt
  exact Sim.bind' (Sim.sureAddr h) fun ν1 e a b k => Sim.loadVar k
theorem Sim.storeAt {t : TypeId} {v v' u u' : Value} (h : VRel ν v v') (hu : VRel ν u u') : Sim P ν Any (Instr.storeAt t v u) (Instr.storeAt t v' u') := by
  unfold Instr.storeAt
  exact Sim.bind' (Sim.sureAddr h) fun ν1 e a b k => Sim.storeVar k (hu.mono e)
theorem Sim.extract {v v' : Value} (h : VRel ν v v') (i : Nat) : Sim P ν VRel (Instr.extract v i) (Instr.extract v' i) := by
  cases v <;> first | exact Sim.fail rfl | skip
  case tuple x =>
    simp only [VRel] at h
    obtain ⟨y, k, rfl⟩ := h
    unfold Instr.extract
    simp only []
    cases hx : x[i]? with
    | none => exact Sim.stuck
    | some v => obtain ⟨v', p, q⟩ := k.get hx; rw [p]; exact Sim.retV q
theorem Sim.field {t : TypeId} {v v' : Value} (h : VRel ν v v') (i : Nat) : Sim P ν VRel (Instr.field t v i) (Instr.field t v' i) := by
  unfold Instr.field
  refine Sim.underlying fun d _ => ?_
  cases d <;> first | exact Sim.stuck | skip
  rename_i fs _
  simp only []
  cases fs[i]? with
  | none => exact Sim.stuck
  | some f => exact Sim.bind' (Sim.asAgg h) fun ν1 e x y k => Sim.part k _

theorem Sim.fieldPlace {a b : Addr} (h : ARel ν a b) (f : Field) : Sim P ν ARel (Go.fieldPlace a f) (Go.fieldPlace b f) := by
  unfold Go.fieldPlace
  refine Sim.sizeOf fun d _ => ?_
  split
  · refine Sim.fail ?_
    unfold Go.partAt Go.byteOf
    rw [h.1]
    rfl
  · exact Sim.pure fun _ e => (h.add _).mono e

theorem Sim.fieldAt {s : TypeId} {v v' : Value} (h : VRel ν v v') (i : Nat) : Sim P ν VRel (Instr.fieldAt s v i) (Instr.fieldAt s v' i) := by
  unfold Instr.fieldAt
  refine Sim.underlying fun d _ => ?_
  cases d <;> first | exact Sim.stuck | skip
  rename_i fs _
  simp only []
  cases fs[i]? with
  | none => exact Sim.stuck
  | some f =>
    exact Sim.bind' (Sim.sureAddr h) fun ν1 e a b k => Sim.bind' (Sim.fieldPlace k f) fun ν2 e2 a b k => Sim.retV ⟨b, k, rfl⟩

theorem slice_rel {v : Value} {base : Option Addr} {len cap : Nat} (h : VRel ν (.slice base len cap) v) : ∃ base' cap', v = .slice base' len cap' ∧
    (match base with | none => base' = none ∧ cap' = cap ∧ cap < OPEN | some a => ∃ b L, ARel ν a b ∧ ν a.block = some L ∧ base' = some b ∧ cap' = if cap < OPEN then cap else cap - OPEN + L.slack) := by
  cases base with
  | none => simp only [VRel] at h; exact ⟨none, cap, h.2, rfl, rfl, h.1⟩
  | some a => simp only [VRel] at h; obtain ⟨b, L, p, q, rfl⟩ := h; exact ⟨some b, _, rfl, b, L, p, q, rfl, rfl⟩

theorem Sim.indexTail (hg : GOk P ν) {t : TypeId} {k : IntKind} {i : Int} {base base' : Option Addr} (len : Nat) (elem : TypeId)
    (h : match base with | none => base' = none | some a => ∃ b, ARel ν a b ∧ base' = some b) : Sim P ν VRel
      (do
          let d ← Go.underlying t
          have tiny : Bool := decide (len ≤ 1) && match d with | .array _ _ => true | _ => false
          match base with
            | some a =>
              if 0 ≤ i ∧ i < ↑len then do
                let s ← Go.sizeOf elem
                Pure.pure (Value.pointer (some (a.add (i.toNat * s))))
              else if tiny = true then Go.unsupported (Unsupported.noEntry "op/indexAddr.an index out of range at an array of length 0 or 1 (ledger 616)")
                else Go.boundsPanic k i (↑len) BoundsCode.index
            | none => Go.boundsPanic k i 0 BoundsCode.index)
      (do
          let d ← Go.underlying t
          have tiny : Bool := decide (len ≤ 1) && match d with | .array _ _ => true | _ => false
          match base' with
            | some a =>
              if 0 ≤ i ∧ i < ↑len then do
                let s ← Go.sizeOf elem
                Pure.pure (Value.pointer (some (a.add (i.toNat * s))))
              else if tiny = true then Go.unsupported (Unsupported.noEntry "op/indexAddr.an index out of range at an array of length 0 or 1 (ledger 616)")
                else Go.boundsPanic k i (↑len) BoundsCode.index
            | none => Go.boundsPanic k i 0 BoundsCode.index) := by
  refine Sim.underlying fun d _ => ?_
  cases base with
  | none => subst h; exact Sim.boundsPanic hg _ _ _ _
  | some a =>
    obtain ⟨b, k1, rfl⟩ := h
    simp only []
    split
    · refine Sim.sizeOf fun d _ => Sim.retV ?_
      exact ⟨_, k1.add _, rfl⟩
    · split <;> split <;> first | exact Sim.unsupported | exact Sim.boundsPanic hg _ _ _ _

theorem Sim.indexAt (hg : GOk P ν) {t : TypeId} {v v' x x' : Value} (h : VRel ν v v') (hx : VRel ν x x') : Sim P ν VRel (Instr.indexAt t v x) (Instr.indexAt t v' x') := by
  unfold Instr.indexAt
  refine Sim.bind' (Sim.asIntOf hx) ?_
  rintro ν1 e ⟨k, i⟩ _ rfl
  have h1 := h.mono e
  have hg1 := hg.mono e
  refine Sim.underlying fun d hd => ?_
  cases d <;> first | (cases v <;> exact Sim.fail rfl) | skip
  case slice elem =>
    cases v <;> first | exact Sim.fail rfl | skip
    rename_i base len cap
    obtain ⟨base', cap', rfl, hb⟩ := slice_rel h1
    refine Sim.indexTail hg1 len elem ?_
    cases base with
    | none => exact hb.1
    | some a => obtain ⟨b, L, p, _, q, _⟩ := hb; exact ⟨b, p, q⟩
  case array len elem =>
    refine Sim.bind' (Sim.sureAddr h1) fun ν2 e2 a b k => ?_
    exact Sim.indexTail (base := some a) (hg1.mono e2) len elem ⟨b, k, rfl⟩

theorem Sim.sliceBound (hg : GOk P ν) {v v' : Value} (h : VRel ν v v') (y : Nat) (c : BoundsCode) : Sim P ν (fun _ a b => b = a ∧ a ≤ y) (Instr.sliceBound v y c) (Instr.sliceBound v' y c) := by
  unfold Instr.sliceBound
  refine Sim.bind' (Sim.asIntOf h) ?_
  rintro ν1 e ⟨k, i⟩ _ rfl
  simp only []
  split
  · rename_i hi
    exact Sim.pure fun _ _ => ⟨rfl, by omega⟩
  · exact Sim.boundsPanic (hg.mono e) _ _ _ _

def ORl (ν : Nm) (x y : Option Value) : Prop := match x with | none => y = none | some v => ∃ v', y = some v' ∧ VRel ν v v'
theorem ORl.mono {ν' : Nm} {x y : Option Value} (h : ORl ν x y) (k : ν.le ν') : ORl ν' x y := by
  cases x with
  | none => exact h
  | some v => obtain ⟨v', p, q⟩ := h; exact ⟨v', p, q.mono k⟩

theorem Sim.sliceBounds (hg : GOk P ν) (is : Bool) (len cap : Nat) {lo lo' hi hi' mx mx' : Option Value} (hl : ORl ν lo lo') (hh : ORl ν hi hi') (hm : ORl ν mx mx') :
    Sim P ν (fun _ a b => b = a ∧ a.2.2 ≤ cap) (Instr.sliceBounds is len cap lo hi mx) (Instr.sliceBounds is len cap lo' hi' mx') := by
  unfold Instr.sliceBounds
  have low : ∀ (ν1 : Nm) (m h : Nat), ν.le ν1 → m ≤ cap → Sim P ν1 (fun _ a b => b = a ∧ a.2.2 ≤ cap) (do
      let l ← match lo with
        | some v => Instr.sliceBound v h (if mx.isSome then .slice3C else .sliceB)
        | none => Pure.pure 0
      Pure.pure (l, h, m)) (do
      let l ← match lo' with
        | some v => Instr.sliceBound v h (if mx'.isSome then .slice3C else .sliceB)
        | none => Pure.pure 0
      Pure.pure (l, h, m)) := by
    intro ν1 m h e hmc
    have hmm : mx'.isSome = mx.isSome := by cases mx <;> simp only [ORl] at hm <;> first | (subst hm; rfl) | (obtain ⟨_, rfl, _⟩ := hm; rfl)
    rw [hmm]
    cases lo with
    | none => simp only [ORl] at hl; subst hl; exact Sim.pure fun _ _ => ⟨rfl, hmc⟩
    | some v =>
      obtain ⟨v', rfl, k⟩ := hl
      exact Sim.bind' (Sim.sliceBound (hg.mono e) (k.mono e) _ _) fun ν2 e2 a b k => by obtain ⟨rfl, _⟩ := k; exact Sim.pure fun _ _ => ⟨rfl, hmc⟩
  have high : ∀ (ν1 : Nm) (m : Nat), ν.le ν1 → m ≤ cap → Sim P ν1 (fun _ a b => b = a ∧ a.2.2 ≤ cap) (do
      let h ← match hi, mx with
        | some v, some _ => Instr.sliceBound v m .slice3B
        | some v, none => Instr.sliceBound v m (if is then .sliceAcap else .sliceAlen)
        | none, none => Pure.pure len
        | none, some _ => Go.stuck "Slice: max without high"
      let l ← match lo with
        | some v => Instr.sliceBound v h (if mx.isSome then .slice3C else .sliceB)
        | none => Pure.pure 0
      Pure.pure (l, h, m)) (do
      let h ← match hi', mx' with
        | some v, some _ => Instr.sliceBound v m .slice3B
        | some v, none => Instr.sliceBound v m (if is then .sliceAcap else .sliceAlen)
        | none, none => Pure.pure len
        | none, some _ => Go.stuck "Slice: max without high"
      let l ← match lo' with
        | some v => Instr.sliceBound v h (if mx'.isSome then .slice3C else .sliceB)
        | none => Pure.pure 0
      Pure.pure (l, h, m)) := by
    intro ν1 m e hmc
    cases hi with
    | none =>
      simp only [ORl] at hh
      subst hh
      cases mx with
      | none => simp only [ORl] at hm; subst hm; exact low ν1 m len e hmc
      | some x => obtain ⟨x', rfl, k⟩ := hm; exact Sim.fail rfl
    | some v =>
      obtain ⟨v', rfl, k⟩ := hh
      cases mx with
      | none =>
        simp only [ORl] at hm; subst hm
        exact Sim.bind' (Sim.sliceBound (hg.mono e) (k.mono e) _ _) fun ν2 e2 a b k => by obtain ⟨rfl, _⟩ := k; exact low ν2 m _ (Nm.le_trans e e2) hmc
      | some x =>
        obtain ⟨x', rfl, k'⟩ := hm
        exact Sim.bind' (Sim.sliceBound (hg.mono e) (k.mono e) _ _) fun ν2 e2 a b k => by obtain ⟨rfl, _⟩ := k; exact low ν2 m _ (Nm.le_trans e e2) hmc
  cases mx with
  | none => simp only [ORl] at hm; subst hm; exact high ν cap (Nm.le_refl _) (Nat.le_refl _)
  | some v =>
    obtain ⟨v', rfl, k⟩ := hm
    exact Sim.bind' (Sim.sliceBound hg k _ _) fun ν2 e2 a b k => by obtain ⟨rfl, h2⟩ := k; exact high ν2 _ e2 h2


theorem Sim.sliceBoundsOpen (hg : GOk P ν) (len cap cap' : Nat) {lo lo' hi hi' mx mx' : Option Value} (hl : ORl ν lo lo') (hh : ORl ν hi hi') (hm : ORl ν mx mx')
    (ho : OPEN ≤ cap) (hcc : cap - OPEN ≤ cap') (h1 : boundOk hi (cap - OPEN) = true) (h2 : boundOk mx (cap - OPEN) = true) (h3 : lowOk lo (cap - OPEN) = true) :
    Sim P ν (fun _ a b => b.1 = a.1 ∧ b.2.1 = a.2.1 ∧ (a.1 = 0 ∨ a.1 < cap - OPEN) ∧ ((mx = none ∧ a.2.2 = cap ∧ b.2.2 = cap') ∨ (b.2.2 = a.2.2 ∧ a.2.2 ≤ cap - OPEN)))
      (Instr.sliceBounds true len cap lo hi mx) (Instr.sliceBounds true len cap' lo' hi' mx') := by
  unfold Instr.sliceBounds
  have bound : ∀ (ν1 : Nm) (v v' : Value) (y y' c : Nat) (q q' : BoundsCode), VRel ν1 v v' → boundOk (some v) c = true → c ≤ y → c ≤ y' →
      Sim P ν1 (fun _ a b => b = a ∧ a ≤ c) (Instr.sliceBound v y q) (Instr.sliceBound v' y' q') := by
    intro ν1 v v' y y' c q q' hv hb hy hy'
    cases v <;> simp only [boundOk] at hb <;> try (simp at hb)
    simp only [VRel] at hv
    subst hv
    rename_i k i
    have e1 : Instr.sliceBound (.int k i) y q = Pure.pure i.toNat := by
      show (if 0 ≤ i ∧ i ≤ (y : Int) then Pure.pure i.toNat else Go.boundsPanic k i y q : Sem Nat) = _
      rw [if_pos (by omega)]
    have e2 : Instr.sliceBound (.int k i) y' q' = Pure.pure i.toNat := by
      show (if 0 ≤ i ∧ i ≤ (y' : Int) then Pure.pure i.toNat else Go.boundsPanic k i y' q' : Sem Nat) = _
      rw [if_pos (by omega)]
    rw [e1, e2]
    exact Sim.pure fun _ _ => ⟨rfl, by omega⟩
  have low : ∀ (ν1 : Nm) (m m' h : Nat), ν.le ν1 → ((mx = none ∧ m = cap ∧ m' = cap') ∨ (m' = m ∧ m ≤ cap - OPEN)) →
      Sim P ν1 (fun _ a b => b.1 = a.1 ∧ b.2.1 = a.2.1 ∧ (a.1 = 0 ∨ a.1 < cap - OPEN) ∧ ((mx = none ∧ a.2.2 = cap ∧ b.2.2 = cap') ∨ (b.2.2 = a.2.2 ∧ a.2.2 ≤ cap - OPEN))) (do
      let l ← match lo with
        | some v => Instr.sliceBound v h (if mx.isSome then .slice3C else .sliceB)
        | none => Pure.pure 0
      Pure.pure (l, h, m)) (do
      let l ← match lo' with
        | some v => Instr.sliceBound v h (if mx'.isSome then .slice3C else .sliceB)
        | none => Pure.pure 0
      Pure.pure (l, h, m')) := by
    intro ν1 m m' h e hmm
    have hmi : mx'.isSome = mx.isSome := by cases mx <;> simp only [ORl] at hm <;> first | (subst hm; rfl) | (obtain ⟨_, rfl, _⟩ := hm; rfl)
    rw [hmi]
    cases lo with
    | none => simp only [ORl] at hl; subst hl; exact Sim.pure fun _ _ => ⟨rfl, rfl, .inl rfl, hmm⟩
    | some v =>
      obtain ⟨v', rfl, k⟩ := hl
      have k1 := k.mono e
      cases v <;> simp only [lowOk] at h3 <;> try (simp at h3)
      simp only [VRel] at k1
      subst k1
      rename_i kk i
      refine Sim.bind' (A := fun _ a b => b = a ∧ a = i.toNat) ?_ fun ν2 e2 a b kab => by
        obtain ⟨rfl, rfl⟩ := kab
        exact Sim.pure fun _ _ => ⟨rfl, rfl, by show i.toNat = 0 ∨ i.toNat < _; omega, hmm⟩
      show Sim P ν1 _ (if 0 ≤ i ∧ i ≤ (h : Int) then Pure.pure i.toNat else Go.boundsPanic kk i h _ : Sem Nat) (if 0 ≤ i ∧ i ≤ (h : Int) then Pure.pure i.toNat else Go.boundsPanic kk i h _ : Sem Nat)
      split
      · exact Sim.pure fun _ _ => ⟨rfl, rfl⟩
      · exact Sim.boundsPanic (hg.mono e) _ _ _ _
  have high : ∀ (ν1 : Nm) (m m' : Nat), ν.le ν1 → cap - OPEN ≤ m ∨ mx ≠ none → ((mx = none ∧ m = cap ∧ m' = cap') ∨ (m' = m ∧ m ≤ cap - OPEN)) →
      Sim P ν1 (fun _ a b => b.1 = a.1 ∧ b.2.1 = a.2.1 ∧ (a.1 = 0 ∨ a.1 < cap - OPEN) ∧ ((mx = none ∧ a.2.2 = cap ∧ b.2.2 = cap') ∨ (b.2.2 = a.2.2 ∧ a.2.2 ≤ cap - OPEN))) (do
      let h ← match hi, mx with
        | some v, some _ => Instr.sliceBound v m .slice3B
        | some v, none => Instr.sliceBound v m (if true then .sliceAcap else .sliceAlen)
        | none, none => Pure.pure len
        | none, some _ => Go.stuck "Slice: max without high"
      let l ← match lo with
        | some v => Instr.sliceBound v h (if mx.isSome then .slice3C else .sliceB)
        | none => Pure.pure 0
      Pure.pure (l, h, m)) (do
      let h ← match hi', mx' with
        | some v, some _ => Instr.sliceBound v m' .slice3B
        | some v, none => Instr.sliceBound v m' (if true then .sliceAcap else .sliceAlen)
        | none, none => Pure.pure len
        | none, some _ => Go.stuck "Slice: max without high"
      let l ← match lo' with
        | some v => Instr.sliceBound v h (if mx'.isSome then .slice3C else .sliceB)
        | none => Pure.pure 0
      Pure.pure (l, h, m')) := by
    intro ν1 m m' e hmo hmm
    cases hi with
    | none =>
      simp only [ORl] at hh
      subst hh
      cases mx with
      | none => simp only [ORl] at hm; subst hm; exact low ν1 m m' len e hmm
      | some x => obtain ⟨x', rfl, k⟩ := hm; exact Sim.fail rfl
    | some v =>
      obtain ⟨v', rfl, k⟩ := hh
      cases mx with
      | none =>
        simp only [ORl] at hm; subst hm
        have hm1 : cap - OPEN ≤ m ∧ cap - OPEN ≤ m' := by
          rcases hmm with ⟨_, a, b⟩ | ⟨a, b⟩
          · exact ⟨by omega, by omega⟩
          · rcases hmo with c | c
            · exact ⟨c, by omega⟩
            · exact absurd rfl c
        exact Sim.bind' (bound ν1 v v' m m' (cap - OPEN) _ _ (k.mono e) h1 hm1.1 hm1.2) fun ν2 e2 a b k => by obtain ⟨rfl, _⟩ := k; exact low ν2 m m' _ (Nm.le_trans e e2) hmm
      | some x =>
        obtain ⟨x', rfl, k'⟩ := hm
        have hm1 : m' = m := by rcases hmm with ⟨a, _⟩ | ⟨a, _⟩; exact absurd a (by simp); exact a
        subst hm1
        exact Sim.bind' (Sim.sliceBound (hg.mono e) (k.mono e) _ _) fun ν2 e2 a b k => by obtain ⟨rfl, _⟩ := k; exact low ν2 m' m' _ (Nm.le_trans e e2) hmm
  cases mx with
  | none => simp only [ORl] at hm; subst hm; exact high ν cap cap' (Nm.le_refl _) (.inl (by omega)) (.inl ⟨rfl, rfl, rfl⟩)
  | some v =>
    obtain ⟨v', rfl, k⟩ := hm
    exact Sim.bind' (bound ν v v' cap cap' (cap - OPEN) _ _ k h2 (by omega) hcc) fun ν2 e2 a b k => by obtain ⟨rfl, h5⟩ := k; exact high ν2 _ _ e2 (.inr (by simp)) (.inr ⟨rfl, h5⟩)

theorem Sim.slice (hg : GOk P ν) {t : TypeId} {x x' : Value} {lo lo' hi hi' mx mx' : Option Value} (h : VRel ν x x') (hl : ORl ν lo lo') (hh : ORl ν hi hi') (hm : ORl ν mx mx')
    (hc : openOk x lo hi mx = true) (hn : ∀ a, P.underlying t = some (.pointer a) → ∀ n e, P.underlying a = some (.array n e) → n < OPEN) :
    Sim P ν VRel (Instr.slice t x lo hi mx) (Instr.slice t x' lo' hi' mx') := by
  have hmi : mx'.isSome = mx.isSome := by cases mx <;> simp only [ORl] at hm <;> first | (subst hm; rfl) | (obtain ⟨_, rfl, _⟩ := hm; rfl)
  unfold Instr.slice
  refine Sim.underlying fun d hd => ?_
  cases d <;> first | (cases x <;> exact Sim.fail rfl) | skip
  case string =>
    cases x <;> first | exact Sim.fail rfl | skip
    simp only [VRel] at h
    subst h
    simp only []
    rw [hmi]
    split
    · exact Sim.fail rfl
    · refine Sim.bind' (Sim.sliceBounds hg _ _ _ hl hh (mx := none) (mx' := none) rfl) ?_
      rintro ν1 e ⟨l, h, m⟩ _ ⟨rfl, _⟩
      exact Sim.retV (by simp [VRel])
  case slice elem =>
    cases x <;> first | exact Sim.fail rfl | skip
    rename_i base len cap
    obtain ⟨base', cap', rfl, hb⟩ := slice_rel h
    simp only []
    by_cases ho : cap < OPEN
    · have hcap : cap' = cap := by
        cases base with
        | none => exact hb.2.1
        | some a => obtain ⟨b, L, p, _, q, r⟩ := hb; rw [if_pos ho] at r; exact r
      subst hcap
      refine Sim.bind' (Sim.sliceBounds hg _ _ _ hl hh hm) ?_
      rintro ν1 e ⟨l, h1, m⟩ _ ⟨rfl, hmc⟩
      simp only [] at hmc ⊢
      refine Sim.sizeOf fun d _ => Sim.retV ?_
      have hml : m - l < OPEN := by omega
      cases base with
      | none =>
        obtain ⟨rfl, _⟩ := hb
        split <;> exact ⟨hml, rfl⟩
      | some a =>
        obtain ⟨b, L, p, pL, rfl, _⟩ := hb
        split
        · exact ⟨b, L, p.mono e, e _ _ pL, by rw [if_pos hml]⟩
        · exact ⟨_, L, (p.mono e).add _, by unfold Addr.add; split <;> exact e _ _ pL, by rw [if_pos hml]; rfl⟩
    · cases base with
      | none => exact absurd hb.2.2 ho
      | some a =>
        obtain ⟨b, L, p, pL, rfl, hcap⟩ := hb
        rw [if_neg ho] at hcap
        simp only [openOk, Bool.or_eq_true, Bool.and_eq_true, decide_eq_true_eq] at hc
        have hc' := hc.resolve_left ho
        obtain ⟨⟨⟨⟨c1, c2⟩, c3⟩, c4⟩, c5⟩ := hc'
        refine Sim.bind' (Sim.sliceBoundsOpen hg len cap cap' hl hh hm (by omega) (by omega) c1 c2 c3) ?_
        rintro ν1 e ⟨l, h1, m⟩ ⟨l', h1', m'⟩ ⟨e1, e2, e3, e4⟩
        simp only [] at e1 e2 e3 e4 ⊢
        subst e1
        subst e2
        refine Sim.sizeOf fun d _ => Sim.retV ?_
        have pb := p.mono e
        have add0 : ∀ x : Addr, x.add 0 = x := fun x => by unfold Addr.add; rw [if_pos rfl]
        have hblk : ∀ n, (a.add n).block = a.block := fun n => by unfold Addr.add; split <;> rfl
        rcases e4 with ⟨_, rfl, rfl⟩ | ⟨rfl, e5⟩
        · have hA : ∀ (q : Prop) [Decidable q], (q → l' = 0) → (if q then some a else Option.map (fun x => x.add (l' * d.size)) (some a)) = some (a.add (l' * d.size)) := by
            intro q _ hq
            split
            · rw [hq ‹_›, Nat.zero_mul, add0]
            · rfl
          have hB : ∀ (q : Prop) [Decidable q], (q → l' = 0) → (if q then some b else Option.map (fun x => x.add (l' * d.size)) (some b)) = some (b.add (l' * d.size)) := by
            intro q _ hq
            split
            · rw [hq ‹_›, Nat.zero_mul, add0]
            · rfl
          rw [hA _ (fun q => by omega), hB _ (fun q => by omega)]
          refine ⟨_, L, pb.add _, by rw [hblk]; exact e _ _ pL, ?_⟩
          rw [if_neg (by omega)]
          congr 1
          omega
        · have hml : m' - l' < OPEN := by omega
          split
          · exact ⟨b, L, pb, e _ _ pL, by rw [if_pos hml]⟩
          · exact ⟨_, L, pb.add _, by rw [hblk]; exact e _ _ pL, by rw [if_pos hml]; rfl⟩
  case pointer arr =>
    refine Sim.bind' (Sim.asAddr hg h) fun ν1 e a b k => ?_
    refine Sim.underlying fun d2 hd2 => ?_
    cases d2 <;> first | exact Sim.fail rfl | skip
    rename_i n elem
    have hn' := hn arr hd n elem hd2
    refine Sim.bind' (Sim.sliceBounds (hg.mono e) _ _ _ (hl.mono e) (hh.mono e) (hm.mono e)) ?_
    rintro ν2 e2 ⟨l, h1, m⟩ _ ⟨rfl, hmc⟩
    simp only [] at hmc ⊢
    refine Sim.sizeOf fun d _ => Sim.retV ?_
    have hml : m - l < OPEN := by omega
    have ⟨_, L, pL, _⟩ := k
    split
    · exact ⟨b, L, k.mono e2, e2 _ _ pL, by rw [if_pos hml]⟩
    · exact ⟨_, L, (k.mono e2).add _, by unfold Addr.add; split <;> exact e2 _ _ pL, by rw [if_pos hml]⟩

theorem Sim.sliceAt (hg : GOk P ν) {t : TypeId} {x x' : Value} {lo lo' hi hi' mx mx' : Option Value} (h : VRel ν x x') (hl : ORl ν lo lo') (hh : ORl ν hi hi') (hm : ORl ν mx mx')
    (hc : openOk x lo hi mx = true) (hn : ∀ a, P.underlying t = some (.pointer a) → ∀ n e, P.underlying a = some (.array n e) → n < OPEN)
    (hn2 : ∀ n e, P.underlying t = some (.array n e) → n < OPEN) :
    Sim P ν VRel (Instr.sliceAt t x lo hi mx) (Instr.sliceAt t x' lo' hi' mx') := by
  unfold Instr.sliceAt
  refine Sim.underlying fun d hd => ?_
  cases d <;> first | exact Sim.slice hg h hl hh hm hc hn | skip
  rename_i n elem
  have hn' := hn2 n elem hd
  refine Sim.bind' (Sim.sureAddr h) fun ν1 e a b k => ?_
  refine Sim.bind' (Sim.sliceBounds (hg.mono e) _ _ _ (hl.mono e) (hh.mono e) (hm.mono e)) ?_
  rintro ν2 e2 ⟨l, h1, m⟩ _ ⟨rfl, hmc⟩
  simp only [] at hmc ⊢
  refine Sim.sizeOf fun d _ => Sim.retV ?_
  have hml : m - l < OPEN := by omega
  have ⟨_, L, pL, _⟩ := k
  split
  · exact ⟨b, L, k.mono e2, e2 _ _ pL, by rw [if_pos hml]⟩
  · exact ⟨_, L, (k.mono e2).add _, by unfold Addr.add; split <;> exact e2 _ _ pL, by rw [if_pos hml]⟩
end
end Go.Dee
