/- Dee, part 25: comparisons of structs and arrays of plain values. -/
import Derived.Test.YtmopbdalpkcffaaDoorDee24
namespace Go.Dee
open Go Go.RowKit

/-- Yields a, whatever the memory, and leaves it. -/
def Ans (P : Program) {α : Type} (q : Sem α) (a : α) : Prop := ∀ s : S, emb P q s = some (.ok a, s)
section
variable {P : Program}
theorem Ans.pure {α : Type} (a : α) : Ans P (Pure.pure a : Sem α) a := fun _ => rfl
theorem Ans.bind {α β : Type} {q : Sem α} {f : α → Sem β} {a : α} {b : β} (h : Ans P q a) (k : Ans P (f a) b) : Ans P (q >>= f) b := fun s => by
  show emb P (Sem.bind q f) s = _
  rw [emb_bind]
  simp only [M.bind, h s]
  exact k s
theorem Ans.und {t : TypeId} {d : TypeDesc} (h : P.underlying t = some d) : Ans P (Go.underlying t) d := fun s => by
  show emb P (match P.underlying t with | some d => Pure.pure d | none => Go.stuck "no such type" : Sem TypeDesc) s = _
  rw [h]; rfl
theorem Ans.info {t : TypeId} {d : TypeInfo} (h : P.info? t = some d) : Ans P (Go.typeInfo t) d := fun s => by
  show emb P (match P.info? t with | some d => Pure.pure d | none => Go.stuck "no such type" : Sem TypeInfo) s = _
  rw [h]; rfl
theorem Ans.size {t : TypeId} {d : TypeInfo} (h : P.info? t = some d) : Ans P (Go.sizeOf t) d.size := Ans.bind (Ans.info h) (Ans.pure _)
theorem Ans.prog {α : Type} {f : Program → Sem α} {a : α} (h : Ans P (f P) a) : Ans P (Go.program >>= f) a := h
theorem Ans.forIn {α β : Type} {f : α → β → Sem (ForInStep β)} {g : α → Bool} {b0 b1 : β} : ∀ (l : List α), (∀ a ∈ l, Ans P (f a b0) (if g a then .yield b0 else .done b1)) → Ans P (ForIn.forIn l b0 f) (if l.all g then b0 else b1)
  | [], _ => Ans.pure _
  | a :: l, h => by
    simp only [List.forIn_cons]
    refine Ans.bind (h a (by simp)) ?_
    cases hg : g a with
    | true =>
      simp only [if_true, List.all_cons, hg, Bool.true_and]
      exact Ans.forIn l fun x hx => h x (List.mem_cons_of_mem _ hx)
    | false =>
      simp only [List.all_cons, hg, Bool.false_and, if_false, Bool.false_eq_true]
      exact Ans.pure _

def aggT (P : Program) (t : TypeId) : Option Bool := match P.underlying t with
  | some (.struct _) => some true
  | some (.array _ _) => some true
  | some _ => some false
  | none => none
def partV (P : Program) (t : TypeId) (x : Array Value) (off : Nat) : Option Value := match aggT P t with
  | some true => match P.info? t with
    | some i => some (.agg (x.extract off (off + i.size)))
    | none => none
  | some false => x[off]?
  | none => none
theorem Ans.part {t : TypeId} {x : Array Value} {off : Nat} {v : Value} (h : partV P t x off = some v) : Ans P (Go.part t x off) v := by
  unfold partV aggT at h
  unfold Go.part
  have key : ∀ b, (∃ d, P.underlying t = some d ∧ (match d with | .struct _ => true | .array _ _ => true | _ => false) = b) → Ans P (Go.isAgg t) b := by
    rintro b ⟨d, hd, rfl⟩
    unfold Go.isAgg
    refine Ans.bind (Ans.und hd) ?_
    cases d <;> exact Ans.pure _
  cases hu : P.underlying t with
  | none => simp [hu] at h
  | some d =>
    cases d <;> simp only [hu] at h
    case struct fs =>
      refine Ans.bind (key true ⟨_, hu, rfl⟩) ?_
      cases hi : P.info? t with
      | none => simp [hi] at h
      | some i =>
        simp only [hi, Option.some.injEq] at h
        subst h
        exact Ans.bind (Ans.size hi) (Ans.pure _)
    case array n e =>
      refine Ans.bind (key true ⟨_, hu, rfl⟩) ?_
      cases hi : P.info? t with
      | none => simp [hi] at h
      | some i =>
        simp only [hi, Option.some.injEq] at h
        subst h
        exact Ans.bind (Ans.size hi) (Ans.pure _)
    all_goals
      refine Ans.bind (key false ⟨_, hu, rfl⟩) ?_
      simp only [h]
      exact Ans.pure _

def eqAll {α : Type} (g : α → Option Bool) : List α → Option Bool
  | [] => some true
  | a :: l => match g a with
    | some b => match eqAll g l with
      | some c => some (b && c)
      | none => none
    | none => none
theorem eqAll_spec {α : Type} {g : α → Option Bool} : ∀ (l : List α) (b : Bool), eqAll g l = some b → (∀ a ∈ l, ∃ c, g a = some c) ∧ b = l.all fun a => (g a).getD false
  | [], b, h => by simp only [eqAll, Option.some.injEq] at h; subst h; simp
  | a :: l, b, h => by
    simp only [eqAll] at h
    split at h
    case h_2 => simp at h
    rename_i c hc
    split at h
    case h_2 => simp at h
    rename_i d hd
    simp only [Option.some.injEq] at h
    obtain ⟨h1, h2⟩ := eqAll_spec l d hd
    refine ⟨fun x hx => ?_, ?_⟩
    · rcases List.mem_cons.1 hx with rfl | hx
      · exact ⟨c, hc⟩
      · exact h1 x hx
    · rw [← h, List.all_cons, hc, h2]; rfl

/-- Are two plain values one? -/
def eqV (P : Program) : Nat → TypeId → Value → Value → Option Bool
  | 0, _, _, _ => none
  | d + 1, t, x, y => match P.underlying t, x, y with
    | some .bool, .bool a, .bool b => some (a == b)
    | some (.int _), .int k a, .int k' b => if k = k' then some (a == b) else none
    | some .string, .string a, .string b => some (a == b)
    | some (.slice _), .slice none _ _, .slice b _ _ => some b.isNone
    | some (.slice _), .slice (some _) _ _, .slice none _ _ => some false
    | some (.struct fs), .agg xs, .agg ys => if P.stoodInHeld t then none else
      eqAll (fun f => if f.name ≠ "_" then (match partV P f.type xs f.offset, partV P f.type ys f.offset with
        | some a, some b => eqV P d f.type a b
        | _, _ => none) else some true) fs.toList
    | some (.array len e), .agg xs, .agg ys => match P.info? e with
      | some i => eqAll (fun j => match partV P e xs (j * i.size), partV P e ys (j * i.size) with
        | some a, some b => eqV P d e a b
        | _, _ => none) (List.range' 0 len)
      | none => none
    | _, _, _ => none

theorem eqV_ans : ∀ (d : Nat) (t : TypeId) (x y : Value) (b : Bool), eqV P d t x y = some b → Ans P (Op.equalIn d t x y) b := by
  intro d
  induction d with
  | zero => intro t x y b h; simp [eqV] at h
  | succ d ih =>
    intro t x y b h
    unfold eqV at h
    unfold Op.equalIn
    split at h
    · rename_i hu
      simp only [Option.some.injEq] at h; subst h
      exact Ans.bind (Ans.und hu) (Ans.pure _)
    · rename_i hu
      split at h
      case isFalse => simp at h
      rename_i hk
      simp only [Option.some.injEq] at h; subst h
      refine Ans.bind (Ans.und hu) ?_
      simp only [hk, if_true]
      exact Ans.pure _
    · rename_i hu
      simp only [Option.some.injEq] at h; subst h
      exact Ans.bind (Ans.und hu) (Ans.pure _)
    · rename_i hu
      simp only [Option.some.injEq] at h; subst h
      exact Ans.bind (Ans.und hu) (Ans.pure _)
    · rename_i hu
      simp only [Option.some.injEq] at h; subst h
      exact Ans.bind (Ans.und hu) (Ans.pure _)
    · rename_i fs xs ys hu
      split at h
      case isTrue => simp at h
      rename_i hst
      obtain ⟨h1, h2⟩ := eqAll_spec _ _ h
      clear h
      refine Ans.bind (Ans.und hu) ?_
      simp only []
      refine Ans.prog ?_
      rw [if_neg (by simpa using hst)]
      rw [← Array.forIn_toList]
      refine Ans.bind (Ans.forIn (g := fun f => (if f.name ≠ "_" then (match partV P f.type xs f.offset, partV P f.type ys f.offset with
        | some a, some b => eqV P d f.type a b
        | _, _ => none) else some true).getD false) (b1 := (some false, ())) fs.toList fun f hf => ?_) ?_
      · obtain ⟨c, hc⟩ := h1 f hf
        by_cases hn : f.name ≠ "_"
        · simp only [if_pos hn] at hc ⊢
          split at hc
          · rename_i a b' ha hb'
            refine Ans.bind (Ans.part ha) (Ans.bind (Ans.part hb') (Ans.bind (ih _ _ _ _ hc) ?_))
            simp only [hc]
            cases c <;> exact Ans.pure _
          · simp at hc
        · simp only [if_neg hn]
          exact Ans.pure _
      · rw [h2]
        cases List.all fs.toList _ <;> exact Ans.pure _
    · rename_i len e xs ys hu
      split at h
      case h_2 => simp at h
      rename_i i hi
      obtain ⟨h1, h2⟩ := eqAll_spec _ _ h
      clear h
      refine Ans.bind (Ans.und hu) ?_
      simp only []
      refine Ans.bind (Ans.size hi) ?_
      rw [Std.Legacy.Range.forIn_eq_forIn_range']
      have hr : List.range' 0 len = List.range' [:len].start [:len].size [:len].step := by simp [Std.Legacy.Range.size]
      rw [← hr]
      refine Ans.bind (Ans.forIn (g := fun j => (match partV P e xs (j * i.size), partV P e ys (j * i.size) with
        | some a, some b => eqV P d e a b
        | _, _ => none).getD false) (b1 := (some false, ())) (List.range' 0 len) fun f hf => ?_) ?_
      · obtain ⟨c, hc⟩ := h1 f hf
        split at hc
        · rename_i a b' ha hb'
          refine Ans.bind (Ans.part ha) (Ans.bind (Ans.part hb') (Ans.bind (ih _ _ _ _ hc) ?_))
          have e : ((match some a, some b' with | some a, some b => eqV P d e a b | _, _ => none).getD false) = c := by simp only [hc]; rfl
          cases c <;> simp only [e] <;> exact Ans.pure _
        · simp at hc
      · rw [h2]
        cases List.all (List.range' 0 len) _ <;> exact Ans.pure _
    · simp at h

/-- A comparison of structs, or arrays. -/
theorem cmp_eq {t : TypeId} {x y : Operand} {a b : Array Value} {d : Bool} (hg : P.eqGuardType P.depth t = false) (h : eqV P Op.maxDepth t (.agg a) (.agg b) = some d) : CmpIs P .eql t x y (.agg a) (.agg b) d := by
  have h1 : Ans P (eqGuard .eql t x y (.agg a) (.agg b)) () := by
    intro s
    show emb P (Sem.program fun p => Sem.program fun q => _) s = _
    simp only [emb, Sem.bind, hg, Bool.not_false, if_true]
    rfl
  exact Ans.bind h1 (Ans.bind (eqV_ans _ _ _ _ _ h) (Ans.pure _))
theorem cmp_ne {t : TypeId} {x y : Operand} {a b : Array Value} {d : Bool} (hg : P.eqGuardType P.depth t = false) (h : eqV P Op.maxDepth t (.agg a) (.agg b) = some d) : CmpIs P .neq t x y (.agg a) (.agg b) (!d) := by
  have h1 : Ans P (eqGuard .neq t x y (.agg a) (.agg b)) () := by
    intro s
    show emb P (Sem.program fun p => Sem.program fun q => _) s = _
    simp only [emb, Sem.bind, hg, Bool.not_false, if_true]
    rfl
  exact Ans.bind h1 (Ans.bind (eqV_ans _ _ _ _ _ h) (Ans.pure _))
end
end Go.Dee
