/- Dee, part 5: more operations. -/
import Derived.Test.YtmopbdalpkcffaaDoorDee4
namespace Go.Dee
open Go
section
variable {P : Program} {ν : Nm}

theorem Sim.ite {α β : Type} {A : Nm → α → β → Prop} {c : Prop} [Decidable c] {a b : Sem α} {a' b' : Sem β} (h : c → Sim P ν A a a') (k : ¬ c → Sim P ν A b b') :
    Sim P ν A (if c then a else b) (if c then a' else b') := by
  by_cases hc : c
  · rw [if_pos hc, if_pos hc]; exact h hc
  · rw [if_neg hc, if_neg hc]; exact k hc

theorem VRel.int {k : IntKind} {n : Int} {v : Value} : VRel ν (.int k n) v ↔ v = .int k n := by simp [VRel]
theorem VRel.bool {b : Bool} {v : Value} : VRel ν (.bool b) v ↔ v = .bool b := by simp [VRel]
theorem VRel.string {b : ByteArray} {v : Value} : VRel ν (.string b) v ↔ v = .string b := by simp [VRel]

theorem Sim.index (hg : GOk P ν) {t : TypeId} {v v' x x' : Value} (h : VRel ν v v') (hx : VRel ν x x') : Sim P ν VRel (Instr.index t v x) (Instr.index t v' x') := by
  unfold Instr.index
  refine Sim.bind' (Sim.asIntOf hx) ?_
  rintro ν1 e ⟨k, i⟩ _ rfl
  have h1 := h.mono e
  have hg1 := hg.mono e
  refine Sim.underlying fun d hd => ?_
  cases d <;> first | (cases v <;> exact Sim.fail rfl) | skip
  case string =>
    cases v <;> first | exact Sim.fail rfl | skip
    rw [VRel.string] at h1
    subst h1
    rename_i s
    simp only []
    generalize (if 0 ≤ i then s[i.toNat]? else none) = o
    cases o with
    | none => exact Sim.boundsPanic hg1 _ _ _ _
    | some b => exact Sim.retV (by simp [VRel])
  case array len elem =>
    cases v <;> first | exact Sim.fail rfl | skip
    simp only [VRel] at h1
    obtain ⟨y, k1, rfl⟩ := h1
    simp only []
    split
    · exact Sim.sizeOf fun d _ => Sim.part k1 _
    · exact Sim.boundsPanic hg1 _ _ _ _

def PRel (ν : Nm) (p q : Nat × Value) : Prop := q.1 = p.1 ∧ VRel ν p.2 q.2

theorem foldl_set {x y : Array Value} {off : Nat} : ∀ {l l' : List (Value × Nat)}, LRel (fun (p q : Value × Nat) => q.2 = p.2 ∧ VRel ν p.1 q.1) l l' → VRels ν x y →
    VRels ν (l.foldl (fun cs (c, j) => cs.setIfInBounds (off + j) c) x) (l'.foldl (fun cs (c, j) => cs.setIfInBounds (off + j) c) y) := by
  intro l
  induction l generalizing x y with
  | nil => intro l' h k; simp only [LRel] at h; subst h; exact k
  | cons a l ih =>
    intro l' h k
    simp only [LRel] at h
    obtain ⟨b, l2, rfl, ⟨h1, h2⟩, h3⟩ := h
    simp only [List.foldl_cons]
    rw [h1]
    exact ih h3 (k.set _ h2)

theorem zipIdx_rel {x y : List Value} (h : VRell ν x y) (n : Nat) : LRel (fun (p q : Value × Nat) => q.2 = p.2 ∧ VRel ν p.1 q.1) (x.zipIdx n) (y.zipIdx n) := by
  induction x generalizing y n with
  | nil => simp only [VRell] at h; subst h; simp [LRel]
  | cons a x ih =>
    simp only [VRell] at h
    obtain ⟨b, y', rfl, p, q⟩ := h
    exact ⟨(b, n), y'.zipIdx (n + 1), rfl, ⟨rfl, p⟩, ih q (n + 1)⟩

theorem fill_rel {place : Nat → Option (Nat × Nat)} {x y : Array Value} : ∀ {l l' : List (Nat × Value)}, LRel (PRel ν) l l' → VRels ν x y →
    match Instr.fill place x l with
    | none => True
    | some r => ∃ r', Instr.fill place y l' = some r' ∧ VRels ν r r' := by
  intro l
  induction l generalizing x y with
  | nil => intro l' h k; simp only [LRel] at h; subst h; exact ⟨y, rfl, k⟩
  | cons a l ih =>
    intro l' h k
    simp only [LRel] at h
    obtain ⟨b, l2, rfl, ⟨h1, h2⟩, h3⟩ := h
    obtain ⟨i, v⟩ := a
    obtain ⟨i', v'⟩ := b
    simp only at h1 h2
    subst h1
    unfold Instr.fill
    cases place i' with
    | none => trivial
    | some os =>
      obtain ⟨off, size⟩ := os
      simp only []
      rw [h2.cells.size, k.size]
      by_cases hb : (decide (v.cells.size ≠ size) || decide (off + v.cells.size > x.size)) = true
      · simp only [hb, if_true]
      · simp only [hb, if_false, Bool.false_eq_true]
        have hz := zipIdx_rel (ν := ν) h2.cells.toList 0
        have hz' : VRels ν (v.cells.zipIdx.foldl (fun cs (c, j) => cs.setIfInBounds (off + j) c) x) (v'.cells.zipIdx.foldl (fun cs (c, j) => cs.setIfInBounds (off + j) c) y) := by
          rw [← Array.foldl_toList, ← Array.foldl_toList, Array.toList_zipIdx, Array.toList_zipIdx]
          exact foldl_set hz k
        exact ih h3 hz'

theorem parts_rel {x : Array (Nat × Operand)} {ρ ρ' : Operand → Value} (h : ∀ o, VRel ν (ρ o) (ρ' o)) : LRel (PRel ν) (x.map fun (i, o) => (i, ρ o)).toList (x.map fun (i, o) => (i, ρ' o)).toList := by
  simp only [Array.toList_map]
  induction x.toList with
  | nil => simp [LRel]
  | cons a l ih => exact ⟨_, _, rfl, ⟨rfl, h a.2⟩, ih⟩

theorem Sim.mapPlaces {α β : Type} {A : Nm → α → β → Prop} {fs : Array Field} {f : Array (Nat × Nat) → Sem α} {f' : Array (Nat × Nat) → Sem β}
    (h : ∀ p, Sim P ν A (f p) (f' p)) : Sim P ν A ((fs.mapM fun f => do Pure.pure (f.offset, ← Go.sizeOf f.type)) >>= f) ((fs.mapM fun f => do Pure.pure (f.offset, ← Go.sizeOf f.type)) >>= f') := by
  rw [Array.mapM_eq_mapM_toList]
  have : ∀ (l : List Field) (g : List (Nat × Nat) → Sem α) (g' : List (Nat × Nat) → Sem β), (∀ p, Sim P ν A (g p) (g' p)) →
      Sim P ν A ((l.mapM fun f => do Pure.pure (f.offset, ← Go.sizeOf f.type)) >>= g) ((l.mapM fun f => do Pure.pure (f.offset, ← Go.sizeOf f.type)) >>= g') := by
    have hassoc : ∀ {γ δ ε : Type} (a : Sem γ) (b : γ → Sem δ) (c : δ → Sem ε), (a >>= b) >>= c = a >>= fun x => b x >>= c := by
      intro γ δ ε a b c
      show Sem.bind (Sem.bind a b) c = Sem.bind a fun x => Sem.bind (b x) c
      induction a with
      | pure a => rfl
      | halt h => rfl
      | load m a k ih => simp only [Sem.bind]; congr 1; funext v; exact ih v
      | store m a v k ih => simp only [Sem.bind]; congr 1
      | new o k ih => simp only [Sem.bind]; congr 1; funext v; exact ih v
      | shape r k ih => simp only [Sem.bind]; congr 1; funext v; exact ih v
      | freeze a n k ih => simp only [Sem.bind]; congr 1
      | frozen a k ih => simp only [Sem.bind]; congr 1; funext v; exact ih v
      | getObj r k ih => simp only [Sem.bind]; congr 1; funext v; exact ih v
      | setObj r o k ih => simp only [Sem.bind]; congr 1
      | choose q k ih => simp only [Sem.bind]; congr 1; funext v; exact ih v
      | sys c k ih => simp only [Sem.bind]; congr 1; funext v; exact ih v
      | program k ih => simp only [Sem.bind]; congr 1; funext v; exact ih v
      | mark m k ih => simp only [Sem.bind]; congr 1
    intro l
    induction l with
    | nil => intro g g' hg; exact hg []
    | cons a l ih =>
      intro g g' hg
      simp only [List.mapM_cons, hassoc]
      refine Sim.sizeOf fun d _ => ?_
      exact ih (fun p => g ((a.offset, d.size) :: p)) (fun p => g' ((a.offset, d.size) :: p)) (fun p => hg _)
  have h2 := this fs.toList (fun p => f p.toArray) (fun p => f' p.toArray) (fun p => h _)
  have e : ∀ {γ : Type} (q : Sem (List (Nat × Nat))) (f : Array (Nat × Nat) → Sem γ), ((List.toArray <$> q) >>= f) = (q >>= fun p => f p.toArray) := by
    intro γ q f
    show Sem.bind (Sem.bind q fun a => Sem.pure a.toArray) f = Sem.bind q _
    induction q with
    | pure a => rfl
    | halt h => rfl
    | load m a k ih => simp only [Sem.bind]; congr 1; funext v; exact ih v
    | store m a v k ih => simp only [Sem.bind]; congr 1
    | new o k ih => simp only [Sem.bind]; congr 1; funext v; exact ih v
    | shape r k ih => simp only [Sem.bind]; congr 1; funext v; exact ih v
    | freeze a n k ih => simp only [Sem.bind]; congr 1
    | frozen a k ih => simp only [Sem.bind]; congr 1; funext v; exact ih v
    | getObj r k ih => simp only [Sem.bind]; congr 1; funext v; exact ih v
    | setObj r o k ih => simp only [Sem.bind]; congr 1
    | choose q k ih => simp only [Sem.bind]; congr 1; funext v; exact ih v
    | sys c k ih => simp only [Sem.bind]; congr 1; funext v; exact ih v
    | program k ih => simp only [Sem.bind]; congr 1; funext v; exact ih v
    | mark m k ih => simp only [Sem.bind]; congr 1
  rw [e, e]
  exact h2

theorem Sim.build (hz : ZeroOk P) {t : TypeId} {x y : Array (Nat × Value)} (h : LRel (PRel ν) x.toList y.toList) : Sim P ν VRel (Instr.build t x) (Instr.build t y) := by
  unfold Instr.build
  refine Sim.zeroValue hz fun i v _ _ hv => ?_
  refine Sim.underlying fun d _ => ?_
  cases d <;> first | exact Sim.fail rfl | skip
  case array n elem =>
    refine Sim.sizeOf fun d _ => ?_
    have := fill_rel (ν := ν) (place := fun i => some (i * d.size, d.size)) h hv.cells
    revert this
    cases Instr.fill (fun i => some (i * d.size, d.size)) v.cells x.toList with
    | none => intro _; exact Sim.fail rfl
    | some r =>
      rintro ⟨r', e, k⟩
      rw [e]
      exact Sim.retV ⟨r', k, rfl⟩
  case struct fs =>
    refine Sim.mapPlaces fun p => ?_
    have := fill_rel (ν := ν) (place := fun i => p[i]?) h hv.cells
    revert this
    cases Instr.fill (fun i => p[i]?) v.cells x.toList with
    | none => intro _; exact Sim.fail rfl
    | some r =>
      rintro ⟨r', e, k⟩
      rw [e]
      exact Sim.retV ⟨r', k, rfl⟩

theorem rep_rel {z : Array Value} (h : VRels ν z z) (n : Nat) : VRels ν ((Array.range n).map (z[· % z.size]!)) ((Array.range n).map (z[· % z.size]!)) := by
  refine VRels.of_get rfl fun i v v' p q => ?_
  rw [p] at q
  obtain rfl := Option.some.inj q
  simp only [Array.getElem?_map, Array.getElem?_range] at p
  split at p
  · simp only [Option.map_some, Option.some.injEq] at p
    subst p
    rw [getElem!_def]
    cases hx : z[i % z.size]? with
    | none => simp only []; simp [default, instInhabitedValue.default, VRel]
    | some u =>
      obtain ⟨u', a, b⟩ := h.get hx
      rw [hx] at a
      obtain rfl := Option.some.inj a
      exact b
  · simp at p

theorem Sim.buildSlice (hz : ZeroOk P) {t : TypeId} {len : Nat} {x y : Array (Nat × Value)} (h : LRel (PRel ν) x.toList y.toList) (hlen : len < OPEN) :
    Sim P ν VRel (Instr.buildSlice t len x) (Instr.buildSlice t len y) := by
  unfold Instr.buildSlice
  refine Sim.underlying fun d _ => ?_
  cases d <;> first | exact Sim.fail rfl | skip
  rename_i elem _
  refine Sim.sizeOf fun d _ => ?_
  refine Sim.ite (fun _ => Sim.fail rfl) fun _ => ?_
  · have rest : ∀ z : Array Value, VRels ν z z → Sim P ν VRel
        (do
          let some cells := Instr.fill (fun i => some (i * d.size, d.size)) ((Array.range (len * d.size)).map (z[· % z.size]!)) x.toList | Go.stuck "buildSlice: a part of the wrong size"
          Pure.pure (.slice (some (← Go.newRow elem cells)) len len))
        (do
          let some cells := Instr.fill (fun i => some (i * d.size, d.size)) ((Array.range (len * d.size)).map (z[· % z.size]!)) y.toList | Go.stuck "buildSlice: a part of the wrong size"
          Pure.pure (.slice (some (← Go.newRow elem cells)) len len)) := by
      intro z hzz
      have := fill_rel (ν := ν) (place := fun i => some (i * d.size, d.size)) h (rep_rel hzz (len * d.size))
      revert this
      cases Instr.fill (fun i => some (i * d.size, d.size)) ((Array.range (len * d.size)).map (z[· % z.size]!)) x.toList with
      | none => intro _; exact Sim.fail rfl
      | some r =>
        rintro ⟨r', e, k⟩
        rw [e]
        refine Sim.bind' (Sim.newRow k) fun ν1 e a b k => Sim.retV ?_
        obtain ⟨ka, L, kL, _, _, rfl⟩ := k
        exact ⟨_, L, ka, kL, by rw [if_pos hlen]⟩
    refine Sim.ite (fun _ => rest #[] VRels.nil) fun _ => ?_
    exact Sim.zeroValue hz fun i v _ _ hv => rest v.cells hv.cells

theorem Sim.panicBind {α β γ δ : Type} {A : Nm → γ → δ → Prop} (hg : GOk P ν) (e : RuntimeError) (f : α → Sem γ) (f' : β → Sem δ) :
    Sim P ν A ((Go.runtimePanic e : Sem α) >>= f) ((Go.runtimePanic e : Sem β) >>= f') :=
  Sim.bind' (Sim.runtimePanic (A := fun _ _ _ => False) hg e) fun _ _ _ _ h => h.elim

theorem Sim.askRoom {α β : Type} {A : Nm → α → β → Prop} (n : Nat) {f : Unit → Sem α} {f' : Unit → Sem β} (h : Sim P ν A (f ()) (f' ())) : Sim P ν A (Go.askRoom n >>= f) (Go.askRoom n >>= f') := by
  unfold Go.askRoom
  split
  · exact Sim.fail rfl
  · exact h

theorem Sim.makeSlice (hg : GOk P ν) (hz : ZeroOk P) {t : TypeId} {l l' c c' : Value} (hl : VRel ν l l') (hc : VRel ν c c')
    (hcap : ∀ k n, c = .int k n → (IntKind.i64.wrap n).toNat < OPEN) : Sim P ν VRel (Instr.makeSlice t l c) (Instr.makeSlice t l' c') := by
  unfold Instr.makeSlice
  refine Sim.underlying fun d _ => ?_
  cases d <;> first | exact Sim.fail rfl | skip
  rename_i elem _
  refine Sim.bind' (Sim.asInt hl) ?_
  rintro ν1 e1 _ len rfl
  cases c with
  | int k cap =>
    rw [VRel.int] at hc
    subst hc
    have hcp := hcap k cap rfl
    have hg1 := hg.mono e1
    show Sim P ν1 VRel (Pure.pure cap >>= _) (Pure.pure cap >>= _)
    refine Sim.typeInfo fun d _ => ?_
    refine Sim.ite (fun _ => ?_) fun hno => ?_
    · refine Sim.ite (fun _ => Sim.panicBind hg1 _ _ _) fun _ => ?_
      refine Sim.ite (fun _ => Sim.panicBind hg1 _ _ _) fun _ => ?_
      exact Sim.fail rfl
    · refine Sim.askRoom _ ?_
      refine Sim.sizeOf fun d2 _ => ?_
      have rest : ∀ (ν2 : Nm) (z : Array Value), VRels ν2 z z → Sim P ν2 VRel
          (do
            let a ← Go.newRow elem ((Array.range ((IntKind.i64.wrap cap).toNat * d2.size)).map (z[· % z.size]!))
            Pure.pure (Value.slice (some a) (IntKind.i64.wrap len).toNat (IntKind.i64.wrap cap).toNat))
          (do
            let a ← Go.newRow elem ((Array.range ((IntKind.i64.wrap cap).toNat * d2.size)).map (z[· % z.size]!))
            Pure.pure (Value.slice (some a) (IntKind.i64.wrap len).toNat (IntKind.i64.wrap cap).toNat)) := by
        intro ν2 z hzz
        refine Sim.bind' (Sim.newRow (rep_rel hzz _)) fun ν3 e a b k => Sim.retV ?_
        obtain ⟨ka, L, kL, _, _, rfl⟩ := k
        exact ⟨_, L, ka, kL, by rw [if_pos hcp]⟩
      refine Sim.ite (fun _ => rest _ #[] VRels.nil) fun _ => ?_
      exact Sim.zeroValue hz fun i v _ _ hv => rest _ v.cells hv.cells
  | pointer a => cases a <;> exact Sim.fail rfl
  | _ => exact Sim.fail rfl

theorem Sim.makeMap {t : TypeId} {r r' : Option Value} (h : ORl ν r r') : Sim P ν VRel (Instr.makeMap t r) (Instr.makeMap t r') := by
  unfold Instr.makeMap
  have rest : ∀ ν1 : Nm, Sim P ν1 VRel (do Pure.pure (.map (some (← Go.newObj (.map #[] 0))))) (do Pure.pure (.map (some (← Go.newObj (.map #[] 0))))) := fun ν1 =>
    Sim.bind' (Sim.newObj rfl ⟨[], rfl, rfl⟩) fun ν2 e a b k => Sim.retV ⟨_, k, rfl⟩
  cases r with
  | none => simp only [ORl] at h; subst h; exact rest ν
  | some v =>
    obtain ⟨v', rfl, k⟩ := h
    simp only []
    refine Sim.underlying fun d _ => ?_
    cases d <;> first | exact Sim.fail rfl | skip
    exact Sim.bind' (Sim.asInt k) fun ν1 e a b _ => rest ν1

theorem Sim.makeInterface {t : TypeId} {x x' : Value} (h : VRel ν x x') : Sim P ν VRel (Instr.makeInterface t x) (Instr.makeInterface t x') := by
  unfold Instr.makeInterface
  refine Sim.underlying fun d _ => ?_
  cases d <;> first | exact Sim.fail rfl | exact Sim.retV ⟨_, h, rfl⟩

theorem Sim.makeFunc {f : Fn} (hf : ∀ l, f ≠ .yield l) {x x' y y' : Array Value} (h : VRels ν x x') (k : VRels ν y y') : Sim P ν VRel (Instr.makeFunc f x y) (Instr.makeFunc f x' y') := by
  unfold Instr.makeFunc
  refine Sim.retV ⟨f, x', y', ?_, h, k, rfl⟩
  cases f <;> simp only [FnRel]
  exact absurd rfl (hf _)

/-! Equality. -/
theorem Sim.sameAddr {a b a' b' : Addr} (h : ARel ν a a') (k : ARel ν b b') : Sim P ν Eq' (Go.sameAddr a b) (Go.sameAddr a' b') := by
  unfold Go.sameAddr
  obtain ⟨s1, L1, p1, rfl⟩ := h
  obtain ⟨s2, L2, p2, rfl⟩ := k
  by_cases e : a.block = b.block
  · rw [e] at p1
    rw [p1] at p2
    obtain rfl := Option.some.inj p2
    simp only [e, beq_self_eq_true, if_true]
    refine Sim.pure fun _ _ => ?_
    show (_ == _) = (_ == _)
    cases a; cases b
    simp only at s1 s2 e
    subst s1; subst s2; subst e
    rw [Bool.eq_iff_iff, beq_iff_eq, beq_iff_eq]
    simp only [Addr.mk.injEq, true_and, and_true]
    omega
  · have e1 : (a.block == b.block) = false := by simpa using e
    refine Sim.fail ?_
    simp only [e1]
    rfl

theorem Sim.part2 {α β : Type} {A : Nm → α → β → Prop} {t : TypeId} {x y : Array Value} {off : Nat} {f : Value → Sem α} {f' : Value → Sem β} (h : VRels ν x y)
    (k : ∀ ν1, ν.le ν1 → ∀ a b, VRel ν1 a b → Sim P ν1 A (f a) (f' b)) : Sim P ν A (Go.part t x off >>= f) (Go.part t y off >>= f') :=
  Sim.bind' (Sim.part h off) k

theorem Sim.forInList {α β : Type} {f f' : α → β → Sem (ForInStep β)} : ∀ (l : List α) (b : β) (ν : Nm), (∀ a b ν1, ν.le ν1 → Sim P ν1 Eq' (f a b) (f' a b)) →
    Sim P ν Eq' (forIn l b f) (forIn l b f') := by
  intro l
  induction l with
  | nil => intro b ν h; exact Sim.retE
  | cons a l ih =>
    intro b ν h
    simp only [List.forIn_cons]
    refine Sim.bind' (h a b ν (Nm.le_refl _)) fun ν1 e r r' k => ?_
    subst k
    cases r' with
    | done b => exact Sim.retE
    | yield b => exact ih b ν1 fun a b ν2 e2 => h a b ν2 (Nm.le_trans e e2)
theorem Sim.forInArray {α β : Type} {f f' : α → β → Sem (ForInStep β)} (l : Array α) (b : β) (h : ∀ a b ν1, ν.le ν1 → Sim P ν1 Eq' (f a b) (f' a b)) :
    Sim P ν Eq' (forIn l b f) (forIn l b f') := by
  rw [← Array.forIn_toList, ← Array.forIn_toList]
  exact Sim.forInList _ _ _ h
theorem Sim.forInRange {β : Type} {f f' : Nat → β → Sem (ForInStep β)} (n : Nat) (b : β) (h : ∀ a b ν1, ν.le ν1 → Sim P ν1 Eq' (f a b) (f' a b)) :
    Sim P ν Eq' (forIn [0:n] b f) (forIn [0:n] b f') := by
  rw [Std.Legacy.Range.forIn_eq_forIn_range', Std.Legacy.Range.forIn_eq_forIn_range']
  exact Sim.forInList _ _ _ h

theorem Sim.samePointer {a b a' b' : Option Addr} (h : VRel ν (.pointer a) (.pointer a')) (k : VRel ν (.pointer b) (.pointer b')) : Sim P ν Eq' (Go.samePointer a b) (Go.samePointer a' b') := by
  cases a with
  | none =>
    simp only [VRel, Value.pointer.injEq] at h
    subst h
    cases b with
    | none => simp only [VRel, Value.pointer.injEq] at k; subst k; exact Sim.retE
    | some b => simp only [VRel, Value.pointer.injEq] at k; obtain ⟨_, _, rfl⟩ := k; exact Sim.retE
  | some a =>
    simp only [VRel, Value.pointer.injEq] at h
    obtain ⟨a2, ha, rfl⟩ := h
    cases b with
    | none => simp only [VRel, Value.pointer.injEq] at k; subst k; exact Sim.retE
    | some b => simp only [VRel, Value.pointer.injEq] at k; obtain ⟨_, kb, rfl⟩ := k; exact Sim.sameAddr ha kb

theorem ptr_rel {a : Option Addr} {v : Value} (h : VRel ν (.pointer a) v) : ∃ a', v = .pointer a' ∧ a'.isNone = a.isNone := by
  cases a with
  | none => simp only [VRel] at h; exact ⟨none, h, rfl⟩
  | some a => simp only [VRel] at h; obtain ⟨b, _, e⟩ := h; exact ⟨some b, e, rfl⟩
theorem map_rel {a : Option Nat} {v : Value} (h : VRel ν (.map a) v) : ∃ a', v = .map a' ∧ a'.isNone = a.isNone := by
  cases a with
  | none => simp only [VRel] at h; exact ⟨none, h, rfl⟩
  | some a => simp only [VRel] at h; obtain ⟨L, _, e⟩ := h; exact ⟨some L.blk, e, rfl⟩
theorem slc_rel {a : Option Addr} {l c : Nat} {v : Value} (h : VRel ν (.slice a l c) v) : ∃ a' c', v = .slice a' l c' ∧ a'.isNone = a.isNone := by
  obtain ⟨a', c', e, k⟩ := slice_rel h
  refine ⟨a', c', e, ?_⟩
  cases a with
  | none => rw [k.1]
  | some a => obtain ⟨b, L, _, _, e2, _⟩ := k; rw [e2]; rfl
theorem iface_rel {t : TypeId} {x v : Value} (h : VRel ν (.iface t x) v) : ∃ x', v = .iface t x' ∧ VRel ν x x' := by
  simp only [VRel] at h; obtain ⟨x', k, e⟩ := h; exact ⟨x', e, k⟩
theorem agg_rel {x : Array Value} {v : Value} (h : VRel ν (.agg x) v) : ∃ x', v = .agg x' ∧ VRels ν x x' := by
  simp only [VRel] at h; obtain ⟨x', k, e⟩ := h; exact ⟨x', e, k⟩

theorem Sim.typeStr {t : TypeId} : Sim P ν Eq' (Go.typeStr t) (Go.typeStr t) := by
  unfold Go.typeStr
  refine Sim.typeInfo fun i _ => ?_
  exact Sim.ite (fun _ => Sim.unsupported) fun _ => Sim.retE

theorem Sim.equalIn (n : Nat) : ∀ {ν : Nm} {t : TypeId} {x x' y y' : Value}, GOk P ν → VRel ν x x' → VRel ν y y' → Sim P ν Eq' (Op.equalIn n t x y) (Op.equalIn n t x' y') := by
  induction n with
  | zero => intro ν t x x' y y' _ _ _; exact Sim.fail rfl
  | succ n ih =>
    intro ν t x x' y y' hg hx hy
    unfold Op.equalIn
    refine Sim.underlying fun d hd => ?_
    split
    case h_1 => rw [VRel.bool] at hx hy; subst hx; subst hy; exact Sim.retE
    case h_2 => rw [VRel.int] at hx hy; subst hx; subst hy; exact Sim.ite (fun _ => Sim.retE) fun _ => Sim.stuck
    case h_3 => rw [VRel.int] at hy; simp only [VRel] at hx; obtain ⟨_, _, rfl⟩ := hx; subst hy; exact Sim.retE
    case h_4 => rw [VRel.int] at hx; simp only [VRel] at hy; obtain ⟨_, _, rfl⟩ := hy; subst hx; exact Sim.retE
    case h_5 => exact Sim.fail rfl
    case h_6 => exact Sim.unsupported
    case h_7 => exact Sim.unsupported
    case h_8 => simp only [VRel] at hx hy; subst hx; subst hy; exact Sim.ite (fun _ => Sim.retE) fun _ => Sim.stuck
    case h_9 => simp only [VRel] at hx hy; subst hx; subst hy; exact Sim.ite (fun _ => Sim.retE) fun _ => Sim.stuck
    case h_10 => rw [VRel.string] at hx hy; subst hx; subst hy; exact Sim.retE
    case h_11 =>
      simp only [VRel] at hx; subst hx
      obtain ⟨b', rfl, e⟩ := ptr_rel hy
      simp only []
      rw [e]; exact Sim.retE
    case h_12 hne =>
      simp only [VRel] at hy; subst hy
      obtain ⟨a', rfl, e⟩ := ptr_rel hx
      cases a' with
      | none =>
        exact (hne (Option.isNone_iff_eq_none.1 e.symm)).elim
      | some a' => exact Sim.retE
    case h_13 =>
      simp only [VRel] at hx hy
      obtain ⟨a', ka, rfl⟩ := hx
      obtain ⟨b', kb, rfl⟩ := hy
      simp only []
      refine Sim.sizeOf fun d _ => ?_
      refine Sim.ite (fun _ => Sim.sameAddr ka kb) fun _ => ?_
      rename_i _ a b _ _
      by_cases hab : a = b
      · subst hab
        obtain ⟨_, L1, p1, rfl⟩ := ka
        obtain ⟨_, L2, p2, rfl⟩ := kb
        rw [p1] at p2
        obtain rfl := Option.some.inj p2
        simp only [beq_self_eq_true, if_true]
        exact Sim.retE
      · refine Sim.fail ?_
        rw [if_neg (by simpa using hab)]
        rfl
    case h_14 =>
      obtain ⟨a', rfl, _⟩ := ptr_rel hx
      obtain ⟨b', rfl, _⟩ := ptr_rel hy
      exact Sim.samePointer hx hy
    case h_15 =>
      rename_i a b
      cases a with
      | some a => simp [VRel] at hx
      | none =>
        cases b with
        | some b => simp [VRel] at hy
        | none => simp only [VRel] at hx hy; subst hx; subst hy; exact Sim.retE
    case h_16 => simp only [VRel] at hx hy; subst hx; subst hy; exact Sim.retE
    case h_17 => obtain ⟨_, rfl, _⟩ := iface_rel hy; simp only [VRel] at hx; subst hx; exact Sim.retE
    case h_18 => obtain ⟨_, rfl, _⟩ := iface_rel hx; simp only [VRel] at hy; subst hy; exact Sim.retE
    case h_19 =>
      obtain ⟨vx', rfl, kx⟩ := iface_rel hx
      obtain ⟨vy', rfl, ky⟩ := iface_rel hy
      simp only []
      refine Sim.ite (fun _ => Sim.retE) fun _ => ?_
      refine Sim.typeInfo fun i _ => ?_
      refine Sim.ite (fun _ => ?_) fun _ => ih hg kx ky
      refine Sim.program ?_
      refine Sim.ite (fun _ => Sim.fail rfl) fun _ => ?_
      exact Sim.bind' Sim.typeStr fun ν1 e a b k => by subst k; exact Sim.runtimePanic (hg.mono e) _
    case h_20 =>
      obtain ⟨xs', rfl, kx⟩ := agg_rel hx
      obtain ⟨ys', rfl, ky⟩ := agg_rel hy
      simp only []
      refine Sim.program ?_
      refine Sim.ite (fun _ => Sim.fail rfl) fun _ => ?_
      refine Sim.bind' (Sim.forInArray _ _ fun f b ν1 e1 => ?_) fun ν1 e r r' k => by subst k; cases r'.1 <;> exact Sim.retE
      refine Sim.ite (fun _ => ?_) fun _ => Sim.retE
      refine Sim.bind' (Sim.part (VRels.mono e1 kx) _) fun ν2 e2 a a' ka => ?_
      refine Sim.bind' (Sim.part (VRels.mono (Nm.le_trans e1 e2) ky) _) fun ν3 e3 c c' kc => ?_
      refine Sim.bind' (ih (hg.mono (Nm.le_trans e1 (Nm.le_trans e2 e3))) (ka.mono e3) kc) fun ν4 e4 r r' kr => ?_
      subst kr
      exact Sim.ite (fun _ => Sim.retE) fun _ => Sim.retE
    case h_21 =>
      obtain ⟨xs', rfl, kx⟩ := agg_rel hx
      obtain ⟨ys', rfl, ky⟩ := agg_rel hy
      simp only []
      refine Sim.sizeOf fun d _ => ?_
      refine Sim.bind' (Sim.forInRange _ _ fun i b ν1 e1 => ?_) fun ν1 e r r' k => by subst k; cases r'.1 <;> exact Sim.retE
      refine Sim.bind' (Sim.part (VRels.mono e1 kx) _) fun ν2 e2 a a' ka => ?_
      refine Sim.bind' (Sim.part (VRels.mono (Nm.le_trans e1 e2) ky) _) fun ν3 e3 c c' kc => ?_
      refine Sim.bind' (ih (hg.mono (Nm.le_trans e1 (Nm.le_trans e2 e3))) (ka.mono e3) kc) fun ν4 e4 r r' kr => ?_
      subst kr
      exact Sim.ite (fun _ => Sim.retE) fun _ => Sim.retE
    case h_22 =>
      simp only [VRel] at hx; obtain ⟨_, rfl⟩ := hx
      obtain ⟨b', c', rfl, e⟩ := slc_rel hy
      simp only []
      rw [e]; exact Sim.retE
    case h_23 hne =>
      simp only [VRel] at hy; obtain ⟨_, rfl⟩ := hy
      obtain ⟨a', c', rfl, e⟩ := slc_rel hx
      cases a' with
      | none =>
        exact (hne (Option.isNone_iff_eq_none.1 e.symm)).elim
      | some a' => exact Sim.retE
    case h_24 =>
      simp only [VRel] at hx; subst hx
      obtain ⟨b', rfl, e⟩ := map_rel hy
      simp only []
      rw [e]; exact Sim.retE
    case h_25 hne =>
      simp only [VRel] at hy; subst hy
      obtain ⟨a', rfl, e⟩ := map_rel hx
      cases a' with
      | none =>
        exact (hne (Option.isNone_iff_eq_none.1 e.symm)).elim
      | some a' => exact Sim.retE
    case h_26 => simp only [VRel] at hx hy; subst hx; subst hy; exact Sim.retE
    case h_27 => simp only [VRel] at hx hy; subst hx; obtain ⟨_, _, _, _, _, _, rfl⟩ := hy; exact Sim.retE
    case h_28 => simp only [VRel] at hx hy; subst hy; obtain ⟨_, _, _, _, _, _, rfl⟩ := hx; exact Sim.retE
    case h_29 => exact Sim.stuck

theorem VRel.nilIface_inv {x : Value} (h : VRel ν x .nilIface) : x = .nilIface := by
  cases x with
  | pointer a => cases a <;> simp [VRel] at h
  | slice a => cases a <;> simp [VRel] at h
  | map a => cases a <;> simp [VRel] at h
  | chan a => cases a <;> simp [VRel] at h
  | _ => simp [VRel] at h <;> rfl
theorem VRel.agg_inv {x : Value} {y : Array Value} (h : VRel ν x (.agg y)) : ∃ z, x = .agg z := by
  cases x with
  | pointer a => cases a <;> simp [VRel] at h
  | slice a => cases a <;> simp [VRel] at h
  | map a => cases a <;> simp [VRel] at h
  | chan a => cases a <;> simp [VRel] at h
  | agg z => exact ⟨z, rfl⟩
  | _ => simp [VRel] at h

theorem Sim.eqGuardIn (n : Nat) : ∀ {ν : Nm} {t : TypeId} {x x' y y' : Value}, VRel ν x x' → VRel ν y y' → Sim P ν Eq' (Op.eqGuardIn n t x y) (Op.eqGuardIn n t x' y') := by
  induction n with
  | zero => intro ν t x x' y y' _ _; exact Sim.fail rfl
  | succ n ih =>
    intro ν t x x' y y' hx hy
    unfold Op.eqGuardIn
    refine Sim.underlying fun d hd => ?_
    split
    case h_1 => simp only [VRel] at hx hy; subst hx; subst hy; exact Sim.retE
    case h_2 =>
      obtain ⟨xs', rfl, kx⟩ := agg_rel hx
      obtain ⟨ys', rfl, ky⟩ := agg_rel hy
      simp only []
      refine Sim.bind' (Sim.forInArray _ _ fun f b ν1 e1 => ?_) fun ν1 e r r' k => by subst k; cases r'.1 <;> exact Sim.retE
      refine Sim.ite (fun _ => ?_) fun _ => Sim.retE
      refine Sim.bind' (Sim.part (VRels.mono e1 kx) _) fun ν2 e2 a a' ka => ?_
      refine Sim.bind' (Sim.part (VRels.mono (Nm.le_trans e1 e2) ky) _) fun ν3 e3 c c' kc => ?_
      refine Sim.bind' (ih (ka.mono e3) kc) fun ν4 e4 r r' kr => ?_
      subst kr
      exact Sim.ite (fun _ => Sim.retE) fun _ => Sim.retE
    case h_3 =>
      obtain ⟨xs', rfl, kx⟩ := agg_rel hx
      obtain ⟨ys', rfl, ky⟩ := agg_rel hy
      simp only []
      refine Sim.sizeOf fun d _ => ?_
      refine Sim.bind' (Sim.forInRange _ _ fun i b ν1 e1 => ?_) fun ν1 e r r' k => by subst k; cases r'.1 <;> exact Sim.retE
      refine Sim.bind' (Sim.part (VRels.mono e1 kx) _) fun ν2 e2 a a' ka => ?_
      refine Sim.bind' (Sim.part (VRels.mono (Nm.le_trans e1 e2) ky) _) fun ν3 e3 c c' kc => ?_
      refine Sim.bind' (ih (ka.mono e3) kc) fun ν4 e4 r r' kr => ?_
      subst kr
      exact Sim.ite (fun _ => Sim.retE) fun _ => Sim.retE
    case h_4 h1 h2 h3 =>
      split
      · exact (h1 _ rfl hx.nilIface_inv hy.nilIface_inv).elim
      · obtain ⟨_, rfl⟩ := hx.agg_inv
        obtain ⟨_, rfl⟩ := hy.agg_inv
        exact (h2 _ _ _ rfl rfl rfl).elim
      · obtain ⟨_, rfl⟩ := hx.agg_inv
        obtain ⟨_, rfl⟩ := hy.agg_inv
        exact (h3 _ _ _ _ rfl rfl rfl).elim
      · exact Sim.retE

theorem Sim.eqGuard (op : BinOp) {t : TypeId} {x y : Operand} {a b a' b' : Value} (ha : VRel ν a a') (hb : VRel ν b b') : Sim P ν Any (Go.eqGuard op t x y a b) (Go.eqGuard op t x y a' b') := by
  unfold Go.eqGuard
  have ret : ∀ ν1, Sim P ν1 (Any : Nm → Unit → Unit → Prop) (Pure.pure ()) (Pure.pure ()) := fun ν1 => Sim.pure fun _ _ => trivial
  refine Sim.ite (fun _ => ret _) fun _ => ?_
  split
  case h_1 =>
    simp only [VRel] at ha hb; subst ha; subst hb
    refine Sim.ite (fun _ => ret _) fun _ => ?_
    refine Sim.bind' (Sim.eqGuardIn _ (by simp [VRel]) (by simp [VRel])) fun ν1 e r r' k => ?_
    subst k
    exact Sim.ite (fun _ => Sim.fail rfl) fun _ => ret _
  case h_2 =>
    obtain ⟨xs', rfl, kx⟩ := agg_rel ha
    obtain ⟨ys', rfl, ky⟩ := agg_rel hb
    refine Sim.program ?_
    refine Sim.program ?_
    refine Sim.ite (fun _ => ret _) fun _ => ?_
    refine Sim.bind' (Sim.eqGuardIn _ ha hb) fun ν1 e r r' k => ?_
    subst k
    exact Sim.ite (fun _ => Sim.fail rfl) fun _ => ret _
  case h_3 h1 h2 =>
    split
    · exact (h1 ha.nilIface_inv hb.nilIface_inv).elim
    · obtain ⟨_, rfl⟩ := ha.agg_inv
      obtain ⟨_, rfl⟩ := hb.agg_inv
      exact (h2 _ _ rfl rfl).elim
    · exact ret _

/-! Operators. -/
theorem Sim.closed {q : Sem Value} (h : ∀ ν, ∃ v, (q = Pure.pure v ∧ VRel ν v v) ∨ emb P q = Dee.fail) : Sim P ν VRel q q := by
  obtain ⟨v, ⟨rfl, hv⟩ | h⟩ := h ν
  · exact Sim.retV hv
  · exact Sim.fail h

theorem VRel.tag {x y : Value} (h : VRel ν x y) : tag y = tag x := by
  cases x with
  | pointer a => obtain ⟨_, rfl, _⟩ := ptr_rel h; rfl
  | slice a l c => obtain ⟨_, _, rfl, _⟩ := slc_rel h; rfl
  | map a => obtain ⟨_, rfl, _⟩ := map_rel h; rfl
  | chan a => cases a <;> simp [VRel] at h; subst h; rfl
  | func => simp only [VRel] at h; obtain ⟨_, _, _, _, _, _, rfl⟩ := h; rfl
  | iface => obtain ⟨_, rfl, _⟩ := iface_rel h; rfl
  | agg => obtain ⟨_, rfl, _⟩ := agg_rel h; rfl
  | tuple => simp only [VRel] at h; obtain ⟨_, _, rfl⟩ := h; rfl
  | _ => simp only [VRel] at h; subst h; rfl
theorem binOp_eql {t : TypeId} {a b : Value} (h : cmpOk a b = true) : Go.binOp .eql t a b = (do Pure.pure (.bool (← Op.equal t a b))) := by
  cases a <;> cases b <;> first | rfl | (simp [cmpOk, tag] at h)
theorem binOp_neq {t : TypeId} {a b : Value} (h : cmpOk a b = true) : Go.binOp .neq t a b = (do Pure.pure (.bool (!(← Op.equal t a b)))) := by
  cases a <;> cases b <;> first | rfl | (simp [cmpOk, tag] at h)

theorem Sim.binOp (hg : GOk P ν) (op : BinOp) {t : TypeId} {a b a' b' : Value} (ha : VRel ν a a') (hb : VRel ν b b')
    (hc : binGuard op a b = true) : Sim P ν VRel (Go.binOp op t a b) (Go.binOp op t a' b') := by
  have int : ∀ k n k' n', a = .int k n → b = .int k' n' → Sim P ν VRel (Go.binOp op t a b) (Go.binOp op t a' b') := by
    rintro k n k' n' rfl rfl
    rw [VRel.int] at ha hb
    subst ha; subst hb
    have ret : ∀ v : Value, (∃ k n, v = .int k n) ∨ (∃ b, v = .bool b) → Sim P ν VRel (Pure.pure v) (Pure.pure v) := by
      rintro v (⟨k, n, rfl⟩ | ⟨b, rfl⟩)
      · exact Sim.retV (by simp [VRel])
      · exact Sim.retV (by simp [VRel])
    have i : ∀ k n, Sim P ν VRel (Pure.pure (Value.int k n)) (Pure.pure (Value.int k n)) := fun k n => ret _ (.inl ⟨_, _, rfl⟩)
    have bb : ∀ b, Sim P ν VRel (Pure.pure (Value.bool b)) (Pure.pure (Value.bool b)) := fun k => ret _ (.inr ⟨_, rfl⟩)
    cases op <;> simp only [Go.binOp] <;>
      first
        | (unfold Op.shift; refine Sim.ite (fun _ => Sim.runtimePanic hg _) fun _ => ?_; exact i _ _)
        | (refine Sim.ite (fun _ => Sim.stuck) fun _ => ?_; first
            | exact i _ _
            | exact bb _
            | (unfold Op.intDiv; refine Sim.ite (fun _ => Sim.runtimePanic hg _) fun _ => ?_; exact i _ _))
        | skip
  have str : ∀ s s', a = .string s → b = .string s' → Sim P ν VRel (Go.binOp op t a b) (Go.binOp op t a' b') := by
    rintro s s' rfl rfl
    rw [VRel.string] at ha hb
    subst ha; subst hb
    have st : ∀ b, Sim P ν VRel (Pure.pure (Value.string b)) (Pure.pure (Value.string b)) := fun k => Sim.retV (by simp [VRel])
    have bb : ∀ b, Sim P ν VRel (Pure.pure (Value.bool b)) (Pure.pure (Value.bool b)) := fun k => Sim.retV (by simp [VRel])
    cases op <;> simp only [Go.binOp, Op.stringOp] <;> first | exact bb _ | exact Sim.stuck | (refine Sim.ite (fun _ => Sim.fail rfl) fun _ => st _) | skip
  have eq : (op = .eql ∨ op = .neq) → cmpOk a b = true → Sim P ν VRel (Go.binOp op t a b) (Go.binOp op t a' b') := by
    intro ho hcm
    have hcm' : cmpOk a' b' = true := by unfold cmpOk at *; rw [ha.tag, hb.tag]; exact hcm
    rcases ho with rfl | rfl
    · rw [binOp_eql hcm, binOp_eql hcm']
      exact Sim.bind' (Sim.equalIn _ hg ha hb) fun ν1 e r r' k => by subst k; exact Sim.retV (by simp [VRel])
    · rw [binOp_neq hcm, binOp_neq hcm']
      exact Sim.bind' (Sim.equalIn _ hg ha hb) fun ν1 e r r' k => by subst k; exact Sim.retV (by simp [VRel])
  have he : isEqOp op = true → op = .eql ∨ op = .neq := by cases op <;> simp [isEqOp]
  simp only [binGuard, Bool.or_eq_true, Bool.and_eq_true, beq_iff_eq] at hc
  rcases hc with (⟨h1, h2⟩ | ⟨h1, h2⟩) | ⟨h1, h2⟩
  · cases a <;> simp [Dee.tag] at h1
    cases b <;> simp [Dee.tag] at h2
    exact int _ _ _ _ rfl rfl
  · cases a <;> simp [Dee.tag] at h1
    cases b <;> simp [Dee.tag] at h2
    exact str _ _ rfl rfl
  · exact eq (he h1) h2

theorem Sim.unary {op : UnOp} {a a' : Value} (ha : VRel ν a a') (hc : unGuard a = true) : Sim P ν VRel (Op.unary op a) (Op.unary op a') := by
  cases a <;> simp [unGuard, Dee.tag] at hc
  case int k n =>
    rw [VRel.int] at ha; subst ha
    cases op <;> first | exact Sim.stuck | exact Sim.retV (by simp [VRel])
  case bool b =>
    rw [VRel.bool] at ha; subst ha
    cases op <;> first | exact Sim.stuck | exact Sim.retV (by simp [VRel])

theorem Sim.bytesLoop {x y : List Value} (h : VRell ν x y) : ∀ (s : ByteArray) (ν1 : Nm), ν.le ν1 → Sim P ν1 Eq'
    (forIn x s fun c s => do
      let .int .u8 n := c | Go.stuck "bytesToString: byte expected"
      Pure.pure (ForInStep.yield (s.push (UInt8.ofNat n.toNat))))
    (forIn y s fun c s => do
      let .int .u8 n := c | Go.stuck "bytesToString: byte expected"
      Pure.pure (ForInStep.yield (s.push (UInt8.ofNat n.toNat)))) := by
  induction x generalizing y with
  | nil => intro s ν1 e; simp only [VRell] at h; subst h; exact Sim.retE
  | cons a x ih =>
    intro s ν1 e
    simp only [VRell] at h
    obtain ⟨b, y', rfl, p, q⟩ := h
    simp only [List.forIn_cons]
    cases a <;> first | exact Sim.fail rfl | skip
    rename_i k n
    rw [VRel.int] at p
    subst p
    cases k <;> first | exact Sim.fail rfl | exact ih q _ _ e

theorem Sim.stringTo (e : TypeId) (b : ByteArray) : Sim P ν VRel
    (do match ← Go.underlying e with | .int .u8 => Conv.stringToBytes e b | .int .i32 => Conv.stringToRunes e b | _ => Go.stuck "Convert: string to a slice of what?")
    (do match ← Go.underlying e with | .int .u8 => Conv.stringToBytes e b | .int .i32 => Conv.stringToRunes e b | _ => Go.stuck "Convert: string to a slice of what?") := by
  refine Sim.underlying fun u hu => ?_
  split
  · exact Sim.fail rfl
  · exact Sim.fail rfl
  · exact Sim.stuck

theorem Sim.bytesToString {x x' : Value} (h : VRel ν x x') : Sim P ν VRel (Conv.bytesToString x) (Conv.bytesToString x') := by
  unfold Conv.bytesToString
  cases x <;> first | exact Sim.fail rfl | skip
  rename_i base len c
  obtain ⟨base', c', rfl, hb⟩ := slice_rel h
  cases base with
  | none =>
    obtain ⟨rfl, _⟩ := hb
    exact Sim.retV (by simp [VRel])
  | some a =>
    obtain ⟨b, L, ka, _, rfl, _⟩ := hb
    refine Sim.bind' (Sim.loadCells ka len) fun ν1 e cs cs' k => ?_
    refine Sim.bind' (A := Eq') ?_ fun ν2 e2 r r' k2 => by subst k2; exact Sim.retV (by simp [VRel])
    rw [← Array.forIn_toList, ← Array.forIn_toList]
    exact Sim.bytesLoop k.toList _ _ (Nm.le_refl _)

theorem Sim.runesLoop {x y : List Value} (h : VRell ν x y) : ∀ (s : ByteArray) (ν1 : Nm), ν.le ν1 → Sim P ν1 Eq'
    (forIn x s fun c s => do
      let .int .i32 n := c | Go.stuck "runesToString: rune expected"
      Pure.pure (ForInStep.yield (s ++ Utf8.encode n)))
    (forIn y s fun c s => do
      let .int .i32 n := c | Go.stuck "runesToString: rune expected"
      Pure.pure (ForInStep.yield (s ++ Utf8.encode n))) := by
  induction x generalizing y with
  | nil => intro s ν1 e; simp only [VRell] at h; subst h; exact Sim.retE
  | cons a x ih =>
    intro s ν1 e
    simp only [VRell] at h
    obtain ⟨b, y', rfl, p, q⟩ := h
    simp only [List.forIn_cons]
    cases a <;> first | exact Sim.fail rfl | skip
    rename_i k n
    rw [VRel.int] at p
    subst p
    cases k <;> first | exact Sim.fail rfl | exact ih q _ _ e
theorem Sim.runesToString {x x' : Value} (h : VRel ν x x') : Sim P ν VRel (Conv.runesToString x) (Conv.runesToString x') := by
  unfold Conv.runesToString
  cases x <;> first | exact Sim.fail rfl | skip
  rename_i base len c
  obtain ⟨base', c', rfl, hb⟩ := slice_rel h
  cases base with
  | none =>
    obtain ⟨rfl, _⟩ := hb
    exact Sim.retV (by simp [VRel])
  | some a =>
    obtain ⟨b, L, ka, _, rfl, _⟩ := hb
    refine Sim.bind' (Sim.loadCells ka len) fun ν1 e cs cs' k => ?_
    refine Sim.bind' (A := Eq') ?_ fun ν2 e2 r r' k2 => by subst k2; exact Sim.retV (by simp [VRel])
    rw [← Array.forIn_toList, ← Array.forIn_toList]
    exact Sim.runesLoop k.toList _ _ (Nm.le_refl _)

theorem Sim.convert {src dst : TypeId} {a a' : Value} (ha : VRel ν a a') (hc : convGuard P src dst a = true) : Sim P ν VRel (Go.convert src dst a) (Go.convert src dst a') := by
  simp only [convGuard, Bool.and_eq_true] at hc
  obtain ⟨⟨h1, h2⟩, hc⟩ := hc
  unfold Go.convert
  refine Sim.underlying fun s hs => ?_
  refine Sim.underlying fun d hd => ?_
  rw [hs] at h1
  rw [hd] at h2
  cases a <;> simp [Dee.tag] at hc
  case int k n =>
    rw [VRel.int] at ha; subst ha
    cases d <;> cases s <;> first | exact Sim.retV (by simp [VRel]) | exact Sim.fail rfl | (simp at h1; done) | (simp at h2; done)
  case string b =>
    rw [VRel.string] at ha; subst ha
    cases d <;> cases s <;> first | exact Sim.stringTo _ _ | exact Sim.retV (by simp [VRel]) | exact Sim.fail rfl | (simp at h1; done) | (simp at h2; done)
  case slice base l c =>
    obtain ⟨base', c', rfl, hb⟩ := slice_rel ha
    have dead : ∀ (e : TypeId) (b b' : Addr), Sim P ν VRel
        (do match src == dst, ← Go.underlying e with | true, .int .u8 => do markStringish b; Pure.pure (Value.slice base l c) | _, _ => Go.unsupported (.noEntry "convert/other"))
        (do match src == dst, ← Go.underlying e with | true, .int .u8 => do markStringish b'; Pure.pure (Value.slice base' l c') | _, _ => Go.unsupported (.noEntry "convert/other")) := by
      intro e b b'
      refine Sim.underlying fun u hu => ?_
      split
      · exact Sim.fail rfl
      · exact Sim.unsupported
    have str : ∀ e, Sim P ν VRel
        (do match ← Go.underlying e with | .int .u8 => Conv.bytesToString (Value.slice base l c) | .int .i32 => Conv.runesToString (Value.slice base l c) | _ => Go.stuck "Convert: a slice of what to string?")
        (do match ← Go.underlying e with | .int .u8 => Conv.bytesToString (Value.slice base' l c') | .int .i32 => Conv.runesToString (Value.slice base' l c') | _ => Go.stuck "Convert: a slice of what to string?") := by
      intro e
      refine Sim.underlying fun u hu => ?_
      split
      · exact Sim.bytesToString ha
      · exact Sim.runesToString ha
      · exact Sim.stuck
    cases base with
    | none =>
      obtain ⟨rfl, _⟩ := hb
      cases d <;> cases s <;> first | (simp at h1; done) | (simp at h2; done) | exact Sim.fail rfl | exact str _
    | some a =>
      obtain ⟨b, L, ka, _, rfl, _⟩ := hb
      cases d <;> cases s <;> first | (simp at h1; done) | (simp at h2; done) | exact Sim.fail rfl | exact str _ | exact dead _ a b
end
end Go.Dee
