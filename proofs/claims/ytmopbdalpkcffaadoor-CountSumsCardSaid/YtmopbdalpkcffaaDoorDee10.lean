/- Dee, part 10: an execution depends on what it notes, and changes what it notes. -/
import Derived.Test.YtmopbdalpkcffaaDoorDee9
namespace Go.Dee
open Go

abbrev Lg := List (Nat × Nat × Bool)
def Wrote (L : Lg) (lo hi b j : Nat) : Prop := (b, j, true) ∈ L ∨ (lo ≤ b ∧ b < hi)

structure Follows {α : Type} (p : M α) (s : S) (r : α) (s' : S) (L : Lg) (t t' : S) : Prop where
  run : p t = some (r, t')
  n : t'.n = s'.n
  on : t'.on = t.on
  log : t'.log = if t.on then L ++ t.log else t.log
  yes : ∀ b j, Wrote L s.n s'.n b j → t'.at b j = s'.at b j
  no : ∀ b j, ¬ Wrote L s.n s'.n b j → t'.at b j = t.at b j

def Agrees (s t : S) (L : Lg) : Prop := t.n = s.n ∧ ∀ e ∈ L, e.1 < s.n → t.at e.1 e.2.1 = s.at e.1 e.2.1
theorem Agrees.refl (s : S) (L : Lg) : Agrees s s L := ⟨rfl, fun _ _ _ => rfl⟩

def Lcl {α : Type} (p : M α) : Prop := ∀ s r s', p s = some (r, s') → ∃ L : Lg, s.n ≤ s'.n ∧ (∀ e ∈ L, e.1 < s'.n) ∧
  ∀ t, Agrees s t L → ∃ t', Follows p s r s' L t t'

theorem Lcl.fail {α : Type} : Lcl (Dee.fail : M α) := fun _ _ _ h => (fail_some h).elim
theorem Lcl.pure {α : Type} (a : α) : Lcl (Pure.pure a : M α) := by
  intro s r s' h
  obtain ⟨rfl, rfl⟩ := pure_some h
  refine ⟨[], Nat.le_refl _, by simp, fun t ht => ⟨t, rfl, ht.1, rfl, by simp, fun b j hw => ?_, fun _ _ _ => rfl⟩⟩
  rcases hw with h | ⟨h, k⟩
  · simp at h
  · omega

theorem Lcl.bind {α β : Type} {p : M α} {f : α → M β} (h : Lcl p) (k : ∀ a, Lcl (f a)) : Lcl (M.bind p f) := by
  intro s r s2 hr
  obtain ⟨a, s1, h1, h2⟩ := M.bind_some hr
  obtain ⟨L1, n1, b1, f1⟩ := h s a s1 h1
  obtain ⟨L2, n2, b2, f2⟩ := k a s1 r s2 h2
  refine ⟨L2 ++ L1, Nat.le_trans n1 n2, fun e he => ?_, fun t ht => ?_⟩
  · rcases List.mem_append.1 he with he | he
    · exact b2 e he
    · exact Nat.lt_of_lt_of_le (b1 e he) n2
  · obtain ⟨s1', g1⟩ := f1 s (Agrees.refl _ _)
    have e1 : s1' = s1 := by have := g1.run; rw [h1] at this; simp at this; exact this.symm
    subst e1
    obtain ⟨t1, g2⟩ := f1 t ⟨ht.1, fun e he hl => ht.2 e (List.mem_append.2 (.inr he)) hl⟩
    have ag : Agrees s1' t1 L2 := by
      refine ⟨g2.n, fun e he hl => ?_⟩
      by_cases hw : Wrote L1 s.n s1'.n e.1 e.2.1
      · exact g2.yes _ _ hw
      · rw [g2.no _ _ hw, g1.no _ _ hw]
        refine ht.2 e (List.mem_append.2 (.inl he)) ?_
        have : ¬ (s.n ≤ e.1 ∧ e.1 < s1'.n) := fun q => hw (.inr q)
        omega
    obtain ⟨s2', g3⟩ := f2 s1' (Agrees.refl _ _)
    have e2 : s2' = s2 := by have := g3.run; rw [h2] at this; simp at this; exact this.symm
    subst e2
    obtain ⟨t2, g4⟩ := f2 t1 ag
    refine ⟨t2, ?_, g4.n, g4.on.trans g2.on, ?_, fun b j hw => ?_, fun b j hw => ?_⟩
    · simp only [M.bind, g2.run, g4.run]
    · rw [g4.log, g2.on, g2.log]
      split <;> simp
    · by_cases hw2 : Wrote L2 s1'.n s2'.n b j
      · exact g4.yes _ _ hw2
      · rw [g4.no _ _ hw2, g3.no _ _ hw2]
        refine g2.yes _ _ ?_
        rcases hw with hw | ⟨p1, p2⟩
        · rcases List.mem_append.1 hw with hw | hw
          · exact absurd (.inl hw) hw2
          · exact .inl hw
        · have : ¬ (s1'.n ≤ b ∧ b < s2'.n) := fun q => hw2 (.inr q)
          exact .inr ⟨p1, by omega⟩
    · have q1 : ¬ Wrote L1 s.n s1'.n b j := fun q => hw (by
        rcases q with q | ⟨q1, q2⟩
        · exact .inl (List.mem_append.2 (.inr q))
        · exact .inr ⟨q1, by omega⟩)
      have q2 : ¬ Wrote L2 s1'.n s2'.n b j := fun q => hw (by
        rcases q with q | ⟨q1, q2⟩
        · exact .inl (List.mem_append.2 (.inl q))
        · exact .inr ⟨by omega, q2⟩)
      rw [g4.no _ _ q2, g2.no _ _ q1]

theorem note_log (s : S) (b j : Nat) (w : Bool) : (s.note b j w).log = if s.on then [(b, j, w)] ++ s.log else s.log := by
  unfold S.note; split <;> rfl
theorem note_on (s : S) (b j : Nat) (w : Bool) : (s.note b j w).on = s.on := by unfold S.note; split <;> rfl

theorem Lcl.rdK (b j : Nat) : Lcl (Dee.rdK b j) := by
  intro s x s' h
  have h0 := h
  simp only [Dee.rdK] at h
  split at h
  case isFalse => simp at h
  rename_i hb
  split at h
  case h_1 => simp at h
  rename_i y hy
  simp only [Option.some.injEq, Prod.mk.injEq] at h
  obtain ⟨rfl, rfl⟩ := h
  refine ⟨[(b, j, false)], by rw [note_n]; exact Nat.le_refl _, by simp only [List.mem_singleton, forall_eq, note_n]; exact hb, fun t ht => ⟨t.note b j false, ?_, by rw [note_n, note_n]; exact ht.1, note_on _ _ _ _, note_log _ _ _ _, fun b' j' hw => ?_, fun b' j' _ => S.at_note _ _ _ _ _ _⟩⟩
  · have h1 := ht.2 (b, j, false) (by simp) hb
    simp only [Dee.rdK, ht.1, if_pos hb]
    rw [h1, hy]
  · rcases hw with hw | hw
    · simp at hw
    · rw [note_n] at hw; omega

theorem Lcl.wrK (b j : Nat) (x : KV) : Lcl (Dee.wrK b j x) := by
  intro s u s' h
  simp only [Dee.wrK] at h
  split at h
  case isFalse => simp at h
  rename_i hb
  simp only [Option.some.injEq, Prod.mk.injEq] at h
  obtain ⟨_, rfl⟩ := h
  refine ⟨[(b, j, true)], by rw [note_n]; exact Nat.le_refl _, by simp only [List.mem_singleton, forall_eq, note_n]; exact hb, fun t ht => ⟨(t.put b j x).note b j true, ?_, by rw [note_n, note_n]; exact ht.1, note_on _ _ _ _, note_log _ _ _ _, fun b' j' hw => ?_, fun b' j' hw => ?_⟩⟩
  · simp only [Dee.wrK, ht.1, if_pos hb]
  · rcases hw with hw | hw
    · simp only [List.mem_singleton, Prod.mk.injEq, and_true] at hw
      rw [S.at_note, S.at_note, S.at_put, S.at_put, if_pos ⟨hw.1, hw.2⟩, if_pos ⟨hw.1, hw.2⟩]
    · rw [note_n] at hw; change s.n ≤ b' ∧ b' < s.n at hw; omega
  · rw [S.at_note, S.at_put, if_neg (fun q => hw (.inl (by simp [q.1, q.2])))]

theorem newB_at (t : T KV) (s : S) (b j : Nat) : ({ s with n := s.n + 1, h := s.h.set s.n t } : S).at b j = if b = s.n then t.get j else s.at b j := by
  simp only [S.at, T.get_set]
  split <;> rfl

theorem Lcl.newB (tr : T KV) : Lcl (Dee.newB tr) := by
  intro s x s' h
  simp only [Dee.newB, Option.some.injEq, Prod.mk.injEq] at h
  obtain ⟨rfl, rfl⟩ := h
  refine ⟨[], by simp, by simp, fun t ht => ⟨{ t with n := t.n + 1, h := t.h.set t.n tr }, ?_, by simp [ht.1], rfl, by simp, fun b j hw => ?_, fun b j hw => ?_⟩⟩
  · simp only [Dee.newB, ht.1]
  · rw [newB_at, newB_at, ht.1]
    rcases hw with hw | hw
    · simp at hw
    · have : b = s.n := by simp only at hw; omega
      rw [if_pos this, if_pos this]
  · rw [newB_at, if_neg]
    intro e
    exact hw (.inr (by simp only; rw [ht.1] at e; omega))

theorem Lcl.logged {α : Type} {p : M α} (h : Lcl p) : Lcl (Dee.logged p) := by
  intro s r s' hr
  simp only [Dee.logged] at hr
  split at hr
  case h_1 => simp at hr
  rename_i a s1 h1
  simp only [Option.some.injEq, Prod.mk.injEq] at hr
  obtain ⟨rfl, rfl⟩ := hr
  obtain ⟨L, n1, b1, f1⟩ := h _ _ _ h1
  obtain ⟨s1', g1⟩ := f1 _ (Agrees.refl _ _)
  have e1 : s1' = s1 := by have := g1.run; rw [h1] at this; simp at this; exact this.symm
  subst e1
  have hl1 : s1'.log = L := by have := g1.log; simpa using this
  have hin : ∀ b j, (b, j, true) ∈ L → b < s.n → (b, j, true) ∈ L.filter fun e => e.1 < s.n := fun b j hm hb => List.mem_filter.2 ⟨hm, by simpa using hb⟩
  have conv : ∀ b j, Wrote (L.filter fun e => e.1 < s.n) s.n s1'.n b j ↔ Wrote L s.n s1'.n b j := by
    intro b j
    constructor
    · rintro (q | q)
      · exact .inl (List.mem_filter.1 q).1
      · exact .inr q
    · rintro (q | q)
      · by_cases hb : b < s.n
        · exact .inl (hin b j q hb)
        · exact .inr ⟨by omega, b1 _ q⟩
      · exact .inr q
  refine ⟨L.filter fun e => e.1 < s.n, n1, fun e he => b1 e (List.mem_filter.1 he).1, fun t ht => ?_⟩
  obtain ⟨t1, g2⟩ := f1 { t with on := true, log := [] } ⟨ht.1, fun e he hl => ht.2 e (List.mem_filter.2 ⟨he, by simpa using hl⟩) hl⟩
  have hl2 : t1.log = L := by have := g2.log; simpa using this
  refine ⟨{ t1 with on := t.on, log := if t.on then (L.filter fun e => e.1 < s.n) ++ t.log else t.log }, ?_, g2.n, rfl, rfl, fun b j hw => ?_, fun b j hw => ?_⟩
  · simp only [Dee.logged]
    rw [g2.run]
    simp only [hl1, hl2, ht.1, g2.n]
  · exact g2.yes b j ((conv b j).1 hw)
  · exact g2.no b j fun q => hw ((conv b j).2 q)

theorem Lcl.ite {α : Type} {c : Prop} [Decidable c] {x y : M α} (h : Lcl x) (k : Lcl y) : Lcl (if c then x else y) := by split <;> assumption
theorem Lcl.rd (b i : Nat) : Lcl (Dee.rd b i) := by
  refine Lcl.bind (Lcl.rdK _ _) fun x => ?_
  split
  · split
    · refine Lcl.bind (Lcl.rdK _ _) fun x => ?_
      split
      · split
        · exact Lcl.fail
        · exact Lcl.pure _
      · exact Lcl.fail
    · exact Lcl.fail
  · exact Lcl.fail
theorem Lcl.wr (b i : Nat) (v : Value) : Lcl (Dee.wr b i v) := by
  refine Lcl.bind (Lcl.rdK _ _) fun x => ?_
  split
  · split
    · exact Lcl.wrK _ _ _
    · exact Lcl.fail
  · exact Lcl.fail
theorem Lcl.newCells (c : List Value) (e : TypeId) (m : BMode) (fz : Nat × Nat) : Lcl (Dee.newCells c e m fz) := Lcl.newB _
theorem Lcl.newObjD (o : Obj) : Lcl (Dee.newObjD o) := by
  unfold Dee.newObjD
  split
  · exact Lcl.newB _
  · exact Lcl.fail
  · split
    · exact Lcl.newB _
    · exact Lcl.fail
theorem Lcl.emb (P : Program) {α : Type} (q : Sem α) : Lcl (Dee.emb P q) := by
  induction q with
  | pure a => exact Lcl.pure _
  | load m a k ih =>
    simp only [Dee.emb]; split
    · exact Lcl.bind (Lcl.rd _ _) ih
    · exact Lcl.fail
  | store m a v k ih =>
    simp only [Dee.emb]; split
    · exact Lcl.bind (Lcl.wr _ _ _) fun _ => ih
    · exact Lcl.fail
  | new o k ih => exact Lcl.bind (Lcl.newObjD _) ih
  | shape r k ih => exact Lcl.fail
  | freeze a n k ih => exact Lcl.fail
  | frozen a k ih => exact Lcl.fail
  | getObj r k ih =>
    simp only [Dee.emb]
    refine Lcl.bind (Lcl.rdK _ _) fun x => ?_
    split <;> first | exact ih _ | exact Lcl.fail
  | setObj r o k ih =>
    refine Lcl.bind (Lcl.rdK _ _) fun x => ?_
    split
    · split
      · exact Lcl.bind (Lcl.wrK _ _ _) fun _ => ih
      · exact Lcl.fail
    · exact Lcl.fail
  | choose q k ih => simp only [Dee.emb]; split <;> first | exact ih _ | exact Lcl.fail
  | sys c k ih => exact Lcl.fail
  | program k ih => exact ih _
  | mark m k ih => exact Lcl.fail
  | halt h => simp only [Dee.emb]; split <;> first | exact Lcl.pure _ | exact Lcl.fail
theorem Lcl.embV (P : Program) {α : Type} (q : Sem α) : Lcl (Dee.embV P q) := by
  refine Lcl.bind (Lcl.emb P q) fun r => ?_
  split <;> first | exact Lcl.pure _ | exact Lcl.fail

section
variable {P : Program}
theorem dApp_lcl (elem : TypeId) (size : Nat) (x : Value) (sLen sCap : Nat) (b : Option Addr) : Lcl (dApp P elem size x sLen sCap b) := by
  cases b with
  | none =>
    refine Lcl.ite ?_ Lcl.fail
    refine Lcl.bind (Lcl.embV _ _) fun new => ?_
    exact Lcl.ite (Lcl.pure _) (Lcl.bind (Lcl.newCells _ _ _ _) fun _ => Lcl.pure _)
  | some a =>
    refine Lcl.ite Lcl.fail ?_
    refine Lcl.ite (Lcl.bind (Lcl.embV _ _) fun _ => Lcl.bind (Lcl.embV _ _) fun _ => Lcl.pure _) ?_
    refine Lcl.ite (Lcl.bind (Lcl.embV _ _) fun _ => Lcl.bind (Lcl.embV _ _) fun _ => Lcl.bind (Lcl.newCells _ _ _ _) fun _ => Lcl.pure _) ?_
    refine Lcl.bind (Lcl.embV _ _) fun _ => Lcl.bind (Lcl.embV _ _) fun _ => Lcl.bind (Lcl.rdK _ _) fun m => ?_
    split
    · exact Lcl.ite (Lcl.bind (Lcl.wrK _ _ _) fun _ => Lcl.bind (Lcl.newCells _ _ _ _) fun _ => Lcl.pure _) Lcl.fail
    · exact Lcl.fail
theorem dAppend_lcl (ts : Array TypeId) (args : Array Value) : Lcl (dAppend P ts args) := by
  unfold dAppend
  split
  · split
    · split
      · exact Lcl.fail
      · refine Lcl.ite Lcl.fail (Lcl.ite Lcl.fail ?_)
        split
        · exact Lcl.fail
        · exact Lcl.ite (Lcl.ite (Lcl.ite (dApp_lcl _ _ _ _ _ _) Lcl.fail) Lcl.fail) Lcl.fail
    · exact Lcl.fail
  · exact Lcl.fail
theorem dOper_lcl (P : Program) (ρ : Operand → Value) (o : Oper) : Lcl (dOper P ρ o) := by
  unfold dOper
  refine Lcl.ite Lcl.fail ?_
  split
  · exact Lcl.bind (dAppend_lcl _ _) fun _ => Lcl.pure _
  · split
    · refine Lcl.bind (Lcl.ite Lcl.fail (Lcl.bind (Lcl.newCells _ _ _ _) fun _ => Lcl.pure _)) fun _ => Lcl.pure _
    · refine Lcl.ite (Lcl.bind (Lcl.emb _ _) fun r => ?_) Lcl.fail
      split <;> exact Lcl.pure _
end

theorem Lcl.put (o : Prop) : Lcl (Dee.put o) := by
  intro s u s' h
  simp only [Dee.put, Option.some.injEq, Prod.mk.injEq] at h
  obtain ⟨_, rfl⟩ := h
  refine ⟨[], Nat.le_refl _, by simp, fun t ht => ⟨{ t with obl := o :: t.obl }, rfl, ht.1, rfl, by simp, fun b j hw => ?_, fun _ _ _ => rfl⟩⟩
  rcases hw with h | ⟨h, k⟩
  · simp at h
  · simp only at k; omega
theorem put_some {o : Prop} {s s' : S} {u : Unit} (h : put o s = some (u, s')) : Same s s' := by
  simp only [put, Option.some.injEq, Prod.mk.injEq] at h
  obtain ⟨_, rfl⟩ := h
  exact ⟨fun _ _ => rfl, rfl⟩
theorem isRows_some {b : Nat} {s s' : S} {x : Option (Nat × Nat × (Nat → Nat → XV))} (h : isRows b s = some (x, s')) :
    Same s s' ∧ ∀ n size row, x = some (n, size, row) → s.at b 0 = some (.hd (.rows n size row)) := by
  simp only [isRows] at h
  split at h
  · split at h
    · rename_i n size row hat
      simp only [Option.some.injEq, Prod.mk.injEq] at h
      obtain ⟨rfl, rfl⟩ := h
      refine ⟨Same.note _ _ _ _, fun n' size' row' e => ?_⟩
      simp only [Option.some.injEq, Prod.mk.injEq] at e
      obtain ⟨rfl, rfl, rfl⟩ := e
      exact hat
    · simp only [Option.some.injEq, Prod.mk.injEq] at h
      obtain ⟨rfl, rfl⟩ := h
      exact ⟨Same.note _ _ _ _, fun _ _ _ e => by simp at e⟩
  · simp only [Option.some.injEq, Prod.mk.injEq] at h
    obtain ⟨rfl, rfl⟩ := h
    exact ⟨Same.refl _, fun _ _ _ e => by simp at e⟩
theorem Lcl.isRows (b : Nat) : Lcl (Dee.isRows b) := by
  intro s x s' h
  have h0 := h
  have hsm := (isRows_some h).1
  simp only [Dee.isRows] at h
  split at h
  case isFalse hb =>
    simp only [Option.some.injEq, Prod.mk.injEq] at h
    obtain ⟨rfl, rfl⟩ := h
    refine ⟨[], Nat.le_refl _, by simp, fun t ht => ⟨t, by simp only [Dee.isRows, ht.1, if_neg hb], ht.1, rfl, by simp, fun b j hw => ?_, fun _ _ _ => rfl⟩⟩
    rcases hw with h | ⟨h, k⟩
    · simp at h
    · omega
  rename_i hb
  have hs' : s' = s.note b 0 false := by
    split at h <;> (simp only [Option.some.injEq, Prod.mk.injEq] at h; exact h.2.symm)
  subst hs'
  refine ⟨[(b, 0, false)], by rw [note_n]; exact Nat.le_refl _, by simp only [List.mem_singleton, forall_eq, note_n]; exact hb, fun t ht => ⟨t.note b 0 false, ?_, by rw [note_n, note_n]; exact ht.1, note_on _ _ _ _, note_log _ _ _ _, fun b' j' hw => ?_, fun b' j' _ => S.at_note _ _ _ _ _ _⟩⟩
  · have h1 := ht.2 (b, 0, false) (by simp) hb
    simp only [Dee.isRows, ht.1, if_pos hb]
    rw [h1]
    split at h
    · rename_i heq
      rw [heq]
      simp only [Option.some.injEq, Prod.mk.injEq] at h
      rw [← h.1]
    · rename_i hne
      simp only [Option.some.injEq, Prod.mk.injEq] at h
      rw [← h.1]
  · rcases hw with hw | hw
    · simp at hw
    · rw [note_n] at hw; omega
theorem Lcl.mkX (x : XV) : Lcl (Dee.mkX x) := by
  cases x with
  | v x => exact Lcl.pure _
  | sl n size row => unfold Dee.mkX; exact Lcl.bind (Lcl.newB _) fun _ => Lcl.pure _
theorem Lcl.mkRow (row : Nat → XV) : ∀ k j, Lcl (Dee.mkRow row k j)
  | 0, _ => Lcl.pure _
  | k + 1, j => Lcl.bind (Lcl.mkX _) fun _ => Lcl.bind (Lcl.mkRow row k (j + 1)) fun _ => Lcl.pure _
theorem Lcl.dRow (P : Program) (t : TypeId) (a : Addr) (size : Nat) (row : Nat → Nat → XV) (i : Int) : Lcl (Dee.dRow P t a size row i) := by
  unfold Dee.dRow
  split
  · split
    · exact Lcl.ite (Lcl.bind (Lcl.mkRow _ _ _) fun _ => Lcl.bind (Lcl.newCells _ _ _ _) fun _ => Lcl.pure _) Lcl.fail
    · exact Lcl.fail
  · exact Lcl.fail
theorem dOp_lcl (P : Program) (ρ : Operand → Value) (o : Oper) : Lcl (dOp false P ρ o) := by
  unfold dOp
  split
  · exact Lcl.bind (Lcl.put _) fun _ => Lcl.ite (Lcl.ite Lcl.fail (Lcl.pure _)) (dOper_lcl _ _ _)
  · split
    · refine Lcl.bind (Lcl.isRows _) fun x => ?_
      split
      · exact Lcl.ite Lcl.fail (Lcl.bind (Lcl.put _) fun _ => Lcl.ite (Lcl.dRow _ _ _ _ _ _) (Lcl.ite (Lcl.dRow _ _ _ _ _ _) Lcl.fail))
      · exact dOper_lcl _ _ _
    · exact dOper_lcl _ _ _

/-- A name for what is there. -/
theorem R.name {P : Program} {ν : Nm} {s : S} {w : World} (hR : R P ν s w) (hF : ν s.n = none) (t : T KV) (m : DM) (L : Loc) (ht : t.get 0 = some (.hd m)) (ho : owns m = false) (hL : ¬ Own ν s L.blk)
    (hB : BRel P (ν.put s.n L) { s with n := s.n + 1, h := s.h.set s.n t } s.n L w m) :
    R P (ν.put s.n L) { s with n := s.n + 1, h := s.h.set s.n t } w := by
  have hle : ν.le (ν.put s.n L) := Nm.le_put hF
  refine ⟨fun b m' hb hl => ?_, fun b b' m1 m2 L1 L2 hb hb' ho1 hl e1 e2 hne => ?_⟩
  · rw [S.at_new] at hb
    by_cases h : b = s.n
    · subst h
      rw [if_pos rfl, ht] at hb
      obtain rfl := KV.hd.inj (Option.some.inj hb)
      exact ⟨_, by simp [Nm.put], hB⟩
    · rw [if_neg h] at hb
      obtain ⟨L', p, q⟩ := hR.blk b m' hb hl
      exact ⟨L', hle _ _ p, q.ext hle (fun j => by rw [S.at_new, if_neg h]) rfl⟩
  · rw [S.at_new] at hb hb'
    by_cases h : b = s.n
    · rw [if_pos h, ht] at hb
      obtain rfl := KV.hd.inj (Option.some.inj hb)
      rw [ho] at ho1; simp at ho1
    · rw [if_neg h] at hb
      simp only [Nm.put, if_neg h] at e1
      by_cases h' : b' = s.n
      · rw [h'] at e2
        simp only [Nm.put, if_true, Option.some.injEq] at e2
        subst e2
        exact fun e => hL ⟨b, m1, L1, hb, ho1, e1, e⟩
      · rw [if_neg h'] at hb'
        simp only [Nm.put, if_neg h'] at e2
        exact hR.apart b b' m1 m2 L1 L2 hb hb' ho1 hl e1 e2 hne
theorem Own.name {ν : Nm} {s : S} {t : T KV} {m : DM} {L : Loc} (ht : t.get 0 = some (.hd m)) (ho : owns m = false) {r : Nat} (h : Own (ν.put s.n L) { s with n := s.n + 1, h := s.h.set s.n t } r) : Own ν s r := by
  obtain ⟨b, m', L', h1, h2, h3, h4⟩ := h
  rw [S.at_new] at h1
  by_cases h : b = s.n
  · rw [if_pos h, ht] at h1
    obtain rfl := KV.hd.inj (Option.some.inj h1)
    rw [ho] at h2; simp at h2
  · rw [if_neg h] at h1
    simp only [Nm.put, if_neg h] at h3
    exact ⟨b, m', L', h1, h2, h3, h4⟩
theorem Fr.name {ν : Nm} {s : S} {w : World} (hF : ν s.n = none) (t : T KV) (m : DM) (L : Loc) (ht : t.get 0 = some (.hd m)) (ho : owns m = false)
    (hX : ∀ n size row, m = .rows n size row → XAt (Foot ν s w) w L n size row) :
    Fr ν s w (ν.put s.n L) { s with n := s.n + 1, h := s.h.set s.n t } w where
  n := by simp
  os := rfl
  tape := rfl
  output := rfl
  size := Nat.le_refl _
  keep := fun _ _ _ => rfl
  own := fun r h => .inl (Own.name ht ho h)
  ext := Nm.le_put hF
  dom := fun b hb hr => by
    simp only [Nm.put]
    rw [if_neg]
    · exact hb
    · rintro rfl; simp only at hr; omega
  rows := fun b n size row q => by
    rw [S.at_new] at q
    by_cases h : b = s.n
    · rw [if_pos h, ht] at q
      have := KV.hd.inj (Option.some.inj q)
      refine .inr ⟨L, by simp [Nm.put, h], (hX n size row this).mono fun r k => ⟨⟨k.1, fun o => k.2 (Own.name ht ho o)⟩, rfl⟩⟩
    · rw [if_neg h] at q; exact .inl q

section
variable {P : Program} {ν : Nm}
theorem Up.mkX (x : XV) : Up (Dee.mkX x) := by
  cases x with
  | v x => exact Up.pure' _
  | sl n size row => unfold Dee.mkX; exact Up.bind (Up.newB _) fun _ => Up.pure' _
theorem Up.mkRow (row : Nat → XV) : ∀ k j, Up (Dee.mkRow row k j)
  | 0, _ => Up.pure' _
  | k + 1, j => Up.bind (Up.mkX _) fun _ => Up.bind (Up.mkRow row k (j + 1)) fun _ => Up.pure' _
theorem mkX_sim {x : XV} {s s' : S} {w : World} {v z : Value} (hR : R P ν s w) (h : mkX x s = some (v, s')) (hF : Fresh ν s.n s'.n) (hx : XRel (Foot ν s w) w x z) :
    ∃ ν', R P ν' s' w ∧ Fr ν s w ν' s' w ∧ VRel ν' v z := by
  cases x with
  | v x =>
    unfold mkX at h
    obtain ⟨rfl, rfl⟩ := pure_some h
    obtain ⟨rfl, hv⟩ := hx
    exact ⟨ν, hR, Fr.refl _ _ _, hv ν⟩
  | sl n size row =>
    unfold mkX at h
    obtain ⟨b, s1, h1, h2⟩ := M.bind_some h
    obtain ⟨rfl, rfl⟩ := pure_some h2
    simp only [newB, Option.some.injEq, Prod.mk.injEq] at h1
    obtain ⟨rfl, rfl⟩ := h1
    have hn : ν s.n = none := hF s.n (Nat.le_refl _) (by simp)
    obtain ⟨r, base, cap, hf, hc, rfl, hrow⟩ := hx
    refine ⟨ν.put s.n ⟨r, base, cap - n⟩, R.name hR hn _ (.rows n size row) _ (by simp [T.get]) rfl hf.2 trivial, Fr.name hn _ (.rows n size row) _ (by simp [T.get]) rfl (fun n' size' row' e => ?_), ?_⟩
    · injection e with e1 e2 e3
      subst e1 e2 e3
      exact ⟨hf, hrow⟩
    · refine ⟨_, ⟨r, base, cap - n⟩, ⟨rfl, ⟨r, base, cap - n⟩, by simp [Nm.put], rfl⟩, by simp [Nm.put], ?_⟩
      rw [if_neg (by omega), Nat.add_zero, Nat.add_sub_cancel_left, Nat.add_sub_cancel' hc]
theorem mkRow_sim (row : Nat → XV) (w : World) (r base : Nat) : ∀ (k j : Nat) (ν : Nm) (s s' : S) (l : List Value), R P ν s w → mkRow row k j s = some (l, s') → Fresh ν s.n s'.n →
    (∀ q, q < k → ∃ z, w.cell? ⟨r, base + (j + q), none⟩ = some z ∧ XRel (Foot ν s w) w (row (j + q)) z) →
    ∃ ν', R P ν' s' w ∧ Fr ν s w ν' s' w ∧ l.length = k ∧ ∀ (q : Nat) (v : Value), l[q]? = some v → ∃ z, w.cell? ⟨r, base + (j + q), none⟩ = some z ∧ VRel ν' v z := by
  intro k
  induction k with
  | zero =>
    intro j ν s s' l hR h hF hx
    obtain ⟨rfl, rfl⟩ := pure_some h
    exact ⟨ν, hR, Fr.refl _ _ _, rfl, fun q v hv => by simp at hv⟩
  | succ k ih =>
    intro j ν s s' l hR h hF hx
    obtain ⟨v, s1, h1, h2⟩ := M.bind_some h
    obtain ⟨l', s2, h3, h4⟩ := M.bind_some h2
    obtain ⟨rfl, rfl⟩ := pure_some h4
    have u1 := Up.mkX _ _ _ _ h1
    have u2 := Up.mkRow _ _ _ _ _ _ h3
    obtain ⟨z, hz, hzx⟩ := hx 0 (by omega)
    obtain ⟨ν1, hR1, hF1, hv1⟩ := mkX_sim hR h1 (hF.sub (Nat.le_refl _) u2) hzx
    obtain ⟨ν2, hR2, hF2, hlen, hl⟩ := ih (j + 1) ν1 s1 s' l' hR1 h3 (hF.later hF1 u2) (fun q hq => by
      obtain ⟨z, p, x⟩ := hx (q + 1) (by omega)
      rw [show j + (q + 1) = j + 1 + q from by omega] at p x
      exact ⟨z, p, x.mono hF1.foot⟩)
    refine ⟨ν2, hR2, hF1.trans hF2, by simp [hlen], fun q v' hq => ?_⟩
    cases q with
    | zero => simp at hq; subst hq; exact ⟨z, hz, hv1.mono hF2.ext⟩
    | succ q =>
      obtain ⟨z, p, x⟩ := hl q v' (by simpa using hq)
      rw [show j + 1 + q = j + (q + 1) from by omega] at p
      exact ⟨z, p, x⟩
theorem cell_block {w : World} {a : Addr} {z : Value} (ha : a.spot = none) (h : w.cell? a = some z) : ∃ rc re rf, w.heap[a.block]? = some (.cells rc re rf) ∧ rc[a.off]? = some z := by
  unfold World.cell? at h
  split at h <;> simp_all
theorem dRow_sim {t : TypeId} {a : Addr} {n m size cap : Nat} {row : Nat → Nat → XV} {i : Int} {k : IntKind} {s s' : S} {w : World} {r : ON} {u : Value} (hR : R P ν s w) (hX : RowsOk ν s w)
    (hrun : dRow P t a size row i s = some (r, s')) (hF : Fresh ν s.n s'.n) (hh : s.at a.block 0 = some (.hd (.rows m size row))) (hi : RowOk n m i) (hu : VRel ν (.slice (some a) n cap) u) :
    ∃ ν' v v', r = .value v ∧ (Instr.indexAt t u (.int k i)).run P w = .ok v' w ∧ R P ν' s' w ∧ Fr ν s w ν' s' w ∧ VRel ν' v v' := by
  obtain ⟨h0, h1, h2⟩ := hi
  unfold dRow at hrun
  cases ht : P.underlying t with
  | none => simp only [ht] at hrun; exact (fail_some hrun).elim
  | some d =>
  simp only [ht] at hrun
  cases d <;> first | exact (fail_some hrun).elim | skip
  rename_i e
  simp only [] at hrun
  cases he : P.info? e with
  | none => simp only [he] at hrun; exact (fail_some hrun).elim
  | some info =>
  simp only [he] at hrun
  split at hrun
  case isFalse => exact (fail_some hrun).elim
  rename_i hc
  simp only [Bool.and_eq_true, decide_eq_true_eq, Option.isNone_iff_eq_none] at hc
  obtain ⟨⟨⟨hoff, hsp⟩, hsz⟩, hnz⟩ := hc
  obtain ⟨l, s1, k1, k2⟩ := M.bind_some hrun
  obtain ⟨b, s2, k3, k4⟩ := M.bind_some k2
  obtain ⟨rfl, rfl⟩ := pure_some k4
  obtain ⟨L, hL, hfo, hrow⟩ := hX _ _ _ _ hh
  have hin : i.toNat < m := by omega
  have u1 := Up.mkRow _ _ _ _ _ _ k1
  have u3 := Up.newCells _ _ _ _ _ _ _ k3
  obtain ⟨ν1, hR1, hF1, hlen, hl⟩ := mkRow_sim (P := P) (row i.toNat) w L.blk (L.base + i.toNat * size) size 0 ν s s1 l hR k1 (hF.sub (Nat.le_refl _) u3) (fun q hq => by
    obtain ⟨z, p, x⟩ := hrow i.toNat q hin hq
    rw [show L.base + i.toNat * size + (0 + q) = L.base + i.toNat * size + q from by omega, Nat.zero_add]
    exact ⟨z, p, x⟩)
  simp only [Dee.newCells, newB, Option.some.injEq, Prod.mk.injEq] at k3
  obtain ⟨rfl, rfl⟩ := k3
  have hF' : Fresh ν1 s1.n (s1.n + 1) := hF.later hF1 (Nat.le_succ _)
  have hn : ν1 s1.n = none := hF' s1.n (Nat.le_refl _) (by simp)
  have hfo1 := (hF1.foot _ hfo).1
  let L' : Loc := ⟨L.blk, L.base + i.toNat * size, 0⟩
  have hcells : ∀ (q : Nat) (v : Value), l[q]? = some v → ∃ z, w.cell? ⟨L.blk, L'.base + q, none⟩ = some z ∧ VRel ν1 v z := fun q v hq => by
    obtain ⟨z, p, x⟩ := hl q v hq
    rw [Nat.zero_add] at p
    exact ⟨z, p, x⟩
  obtain ⟨a', L2, ⟨_, L3, p3, rfl⟩, p2, rfl⟩ := hu
  rw [hL] at p3 p2
  obtain rfl := Option.some.inj p3
  obtain rfl := Option.some.inj p2
  refine ⟨ν1.put s1.n L', .pointer (some ⟨s1.n, 0, none⟩), .pointer (some ⟨L.blk, L.base + i.toNat * size, none⟩), rfl, ?_, R.name hR1 hn _ (.cells l.length e .ro (0, 0)) L' (blk_get_zero _ _ _ _) rfl hfo1.2 ?_, hF1.trans (Fr.name hn _ (.cells l.length e .ro (0, 0)) L' (blk_get_zero _ _ _ _) rfl (fun _ _ _ e => by simp at e)), ?_⟩
  · have hrun : (Instr.indexAt t (.slice (some ⟨L.blk, L.base + a.off, none⟩) n (if cap < OPEN then cap else cap - OPEN + L.slack)) (.int k i)).run P w = .ok (.pointer (some ((⟨L.blk, L.base + a.off, none⟩ : Addr).add (i.toNat * info.size)))) w := by
      simp [Instr.indexAt, asIntOf, Go.underlying, Go.program, Go.sizeOf, Go.typeInfo, ht, he, h0, h1, Bind.bind, Sem.bind, Sem.run, Pure.pure]
    rw [hrun]
    unfold Addr.add
    rw [hsz, hoff]
    split <;> simp_all
  · have hpos : 0 < l.length ∨ l.length = 0 := by omega
    rcases hpos with hpos | hpos
    · obtain ⟨z0, c0, _⟩ := hcells 0 _ (List.getElem?_eq_getElem hpos)
      obtain ⟨rc, re, rf, g1, g2⟩ := cell_block rfl c0
      obtain ⟨z1, c1, _⟩ := hcells (l.length - 1) _ (List.getElem?_eq_getElem (by omega))
      obtain ⟨rc', re', rf', g1', g2'⟩ := cell_block rfl c1
      simp only at g1 g1' g2'
      rw [g1] at g1'
      injection g1' with g1'
      injection g1' with q1 q2 q3
      subst q1
      have hsize := (Array.getElem?_eq_some_iff.1 g2').1
      refine ⟨rc, re, rf, g1, by omega, fun q v hq hv _ => ?_, fun h => absurd rfl h, fun h => by simp at h, fun h => by simp at h⟩
      rw [S.at_new, if_pos rfl, blk_get_succ] at hv
      cases hx : l[q]? with
      | none => rw [hx] at hv; simp at hv
      | some x =>
        rw [hx] at hv
        simp only [Option.map_some, Option.some.injEq, KV.val.injEq] at hv
        subst hv
        obtain ⟨z, c, hz⟩ := hcells q x hx
        obtain ⟨rc2, re2, rf2, e1, e2⟩ := cell_block rfl c
        simp only at e1 e2
        rw [g1] at e1
        injection e1 with e1
        injection e1 with e3
        subst e3
        exact ⟨z, e2, hz.mono (Nm.le_put hn)⟩
    · exact absurd (hlen.symm.trans hpos) (by simpa using hnz)
  · exact ⟨_, ⟨rfl, L', by simp [Nm.put], rfl⟩, by simp [L']⟩
end

theorem dOp_sim {P : Program} {ν : Nm} (hz : ZeroOk P) (hzs : ZSize P) (hg : GOk P ν) {a b : Act} {o : Oper} {s s' : S} {w : World} {r : ON} (ht : TRel ν a b) (hR : R P ν s w) (hX : RowsOk ν s w)
    (hrun : dOp false P a.eval o s = some (r, s')) (hF : Fresh ν s.n s'.n) : ∃ ν' w', ONRel ν' r ((Go.execOp b.eval o).run P w) w' ∧ R P ν' s' w' ∧ Fr ν s w ν' s' w' := by
  unfold dOp at hrun
  cases hc : catOf a.eval o.op with
  | some ab =>
    obtain ⟨x, y⟩ := ab
    simp only [hc] at hrun
    obtain ⟨u, s1, h1, h2⟩ := M.bind_some hrun
    have hS := put_some h1
    simp only [Bool.false_eq_true, if_false] at h2
    obtain ⟨ν', w', p, q, r⟩ := dOper_sim hz hzs hg ht (hR.same hS) h2 (by rw [hS.n]; exact hF)
    exact ⟨ν', w', p, q, (Fr.same w hS).trans r⟩
  | none =>
    simp only [hc] at hrun
    cases hrow : rowIx a.eval o.op with
    | none =>
      simp only [hrow, Bool.false_eq_true, if_false] at hrun
      exact dOper_sim hz hzs hg ht hR hrun hF
    | some q =>
      obtain ⟨t, ad, n, i⟩ := q
      simp only [hrow] at hrun
      obtain ⟨x, s1, h1, h2⟩ := M.bind_some hrun
      obtain ⟨hS, hx⟩ := isRows_some h1
      cases x with
      | none =>
        simp only [] at h2
        obtain ⟨ν', w', p, q, r⟩ := dOper_sim hz hzs hg ht (hR.same hS) h2 (by rw [hS.n]; exact hF)
        exact ⟨ν', w', p, q, (Fr.same w hS).trans r⟩
      | some y =>
        obtain ⟨m, size, row⟩ := y
        have hh := hx m size row rfl
        simp only [] at h2
        split at h2
        case isTrue => exact (fail_some h2).elim
        rename_i hall
        obtain ⟨u, s2, h3, h4⟩ := M.bind_some h2
        have hS2 := hS.trans (put_some h3)
        simp only [Bool.false_eq_true, if_false] at h4
        split at h4
        case isFalse => exact (fail_some h4).elim
        rename_i hok
        unfold rowIx at hrow
        split at hrow
        case h_2 => simp at hrow
        rename_i t' vx vi ho
        split at hrow
        case h_2 => simp at hrow
        rename_i ad' n' cap k i' hvx hvi
        simp only [Option.some.injEq, Prod.mk.injEq] at hrow
        obtain ⟨rfl, rfl, rfl, rfl⟩ := hrow
        have hall : o.op.operands.all (opndOk P) = true := by simpa using hall
        rw [Array.all_eq_true'] at hall
        have e1 := eval_rel hg ht (hall vx (by rw [ho]; simp [Op.operands]))
        have e2 := eval_rel hg ht (hall vi (by rw [ho]; simp [Op.operands]))
        rw [hvx] at e1
        rw [hvi] at e2
        simp only [VRel] at e2
        have hX2 : RowsOk ν s2 w := hX.step (Fr.same w hS2)
        obtain ⟨ν', v, v', rfl, r1, r2, r3, r4⟩ := dRow_sim (k := k) (hR.same hS2) hX2 h4 (by rw [hS2.n]; exact hF) (by rw [hS2.at_]; exact hh) hok e1
        refine ⟨ν', w, ⟨.value v', ?_, v', rfl, r4⟩, r2, (Fr.same w hS2).trans r3⟩
        obtain ⟨dst, op, type, pos, after, guard⟩ := o
        simp only at ho
        subst ho
        show (Sem.bind (Instr.indexAt t' (b.eval vx) (b.eval vi)) _).run P w = _
        rw [run_bind, e2, r1]
        rfl

/-- All that is taken without a look inside is of that kind. -/
def Env.lcl (E : Env) : Prop := E.off = false ∧ ∀ f p, E.orc f = some p → ∀ args, Lcl (p args)

section
variable {E : Env}
structure Fns.Lcl (F : Fns) : Prop where
  exec : ∀ fn ro c a, Dee.Lcl (F.exec fn ro c a)
  runOps : ∀ fn ro ops l a, Dee.Lcl (F.runOps fn ro ops l a)
  drawOps : ∀ ops l a rows, Dee.Lcl (F.drawOps ops l a rows)
  runOp : ∀ o a, Dee.Lcl (F.runOp o a)
  call : ∀ f args, Dee.Lcl (F.call f args)
  leave : ∀ fn tmps md ds, Dee.Lcl (F.leave fn tmps md ds)
  round : ∀ l f tmps x y, Dee.Lcl (F.round l f tmps x y)

theorem fns_lcl (hE : E.lcl) : ∀ k, (fns E k).Lcl := by
  intro k
  induction k with
  | zero => exact ⟨fun _ _ _ _ => Lcl.fail, fun _ _ _ _ _ => Lcl.fail, fun _ _ _ _ => Lcl.fail, fun _ _ => Lcl.fail, fun _ _ => Lcl.fail, fun _ _ _ _ => Lcl.fail, fun _ _ _ _ _ => Lcl.fail⟩
  | succ k ih =>
    obtain ⟨i1, i2, i3, i4, i5, i6, i7⟩ := ih
    refine ⟨?_, ?_, ?_, ?_, ?_, ?_, ?_⟩
    · intro fn ro c a
      show Lcl (exec1 E (fns E k) fn ro c a)
      unfold exec1
      cases c <;> simp only [] <;> first
        | exact Lcl.fail
        | exact Lcl.pure _
        | skip
      case seq x y =>
        refine Lcl.bind (i1 _ _ _ _) fun r => ?_
        split
        · exact i1 _ _ _ _
        · exact Lcl.pure _
      case cond c x y => split <;> first | exact i1 _ _ _ _ | exact Lcl.fail
      case block id c =>
        refine Lcl.bind (i1 _ _ _ _) fun r => ?_
        split <;> exact Lcl.pure _
      case loop c =>
        refine Lcl.bind (i1 _ _ _ _) fun r => ?_
        split
        · exact i1 _ _ _ _
        · exact Lcl.pure _
      case region id ops d =>
        refine Lcl.ite (Lcl.ite (Lcl.bind (i3 _ _ _ _) fun r => Lcl.ite (Lcl.pure _) Lcl.fail) Lcl.fail) (i2 _ _ _ _ _)
      case rangeFunc f ps as bd =>
        refine Lcl.ite Lcl.fail (Lcl.bind (Lcl.embV _ _) fun lm => ?_)
        refine Lcl.bind (Lcl.embV _ _) fun r => ?_
        split
        · refine Lcl.bind (i5 _ _) fun r => ?_
          split
          · exact Lcl.pure _
          · refine Lcl.bind (Lcl.embV _ _) fun r => ?_
            split
            · exact Lcl.pure _
            · exact i1 _ _ _ _
        · exact Lcl.fail
    · intro fn ro ops l a
      cases l with
      | nil => exact Lcl.pure _
      | cons i is =>
        show Lcl (runOps1 (fns E k) fn ro ops (i :: is) a)
        unfold runOps1
        simp only []
        split
        · exact Lcl.fail
        · refine Lcl.ite Lcl.fail (Lcl.ite (Lcl.bind (i4 _ _) fun r => ?_) (i2 _ _ _ _ _))
          split
          · exact i2 _ _ _ _ _
          · exact i2 _ _ _ _ _
          · exact Lcl.pure _
    · intro ops l a rows
      cases l with
      | nil => exact Lcl.pure _
      | cons i is =>
        show Lcl (drawOps1 (fns E k) ops (i :: is) a rows)
        unfold drawOps1
        simp only []
        split
        · exact Lcl.fail
        · refine Lcl.ite Lcl.fail (Lcl.bind (Lcl.logged (Lcl.ite (i4 _ _) (Lcl.pure _))) fun r => ?_)
          split
          · exact i3 _ _ _ _
          · exact Lcl.fail
    · intro o a
      show Lcl (runOp1 E (fns E k) o a)
      unfold runOp1
      rw [hE.1]
      refine Lcl.bind (dOp_lcl _ _ _) fun r => ?_
      split
      · exact Lcl.pure _
      · exact Lcl.pure _
      · split
        · exact Lcl.pure _
        · exact Lcl.pure _
        · refine Lcl.bind (i5 _ _) fun r => ?_
          split <;> exact Lcl.pure _
        · refine Lcl.bind (i7 _ _ _ _ _) fun r => ?_
          split <;> exact Lcl.pure _
        · exact Lcl.fail
    · intro f args
      show Lcl (call1 E (fns E k) f args)
      unfold call1
      split
      · rename_i p hp
        exact Lcl.bind (hE.2 f p hp args) fun _ => Lcl.pure _
      · split
        · exact Lcl.fail
        · split
          · exact Lcl.fail
          · refine Lcl.bind (i1 _ _ _ _) fun r => ?_
            split <;> first | exact i6 _ _ _ _ | exact Lcl.fail
    · intro fn tmps md ds
      cases ds with
      | nil =>
        show Lcl (leave1 E (fns E k) fn tmps md [])
        unfold leave1
        simp only []
        split
        · exact Lcl.bind (Lcl.embV _ _) fun _ => Lcl.pure _
        · exact Lcl.pure _
      | cons d ds =>
        show Lcl (leave1 E (fns E k) fn tmps md (d :: ds))
        unfold leave1
        simp only []
        split
        · exact Lcl.bind (Lcl.embV _ _) fun _ => i6 _ _ _ _
        · exact Lcl.fail
    · intro l f tmps x y
      show Lcl (round1 E (fns E k) l f tmps x y)
      unfold round1
      refine Lcl.bind (i1 _ _ _ _) fun r => ?_
      split
      · refine Lcl.ite Lcl.fail (Lcl.bind (Lcl.emb _ _) fun r => ?_)
        split
        · exact Lcl.pure _
        · refine Lcl.bind (i1 _ _ _ _) fun r => Lcl.ite Lcl.fail ?_
          split
          · exact Lcl.pure _
          · split
            · exact Lcl.fail
            · exact Lcl.bind (Lcl.embV _ _) fun _ => Lcl.pure _
      · exact Lcl.fail
end
end Go.Dee
