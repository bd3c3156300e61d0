/- Dee, part 2: how the abstract state stands to a world; the rules by which one execution follows the other. -/
import Derived.Test.YtmopbdalpkcffaaDoorDee1
import Derived.Below
namespace Go.Dee
open Go

structure Loc where
  blk : Nat
  base : Nat
  slack : Nat

abbrev Nm : Type := Nat → Option Loc

def Nm.le (ν ν' : Nm) : Prop := ∀ b L, ν b = some L → ν' b = some L
theorem Nm.le_refl (ν : Nm) : ν.le ν := fun _ _ h => h
theorem Nm.le_trans {a b c : Nm} (h : a.le b) (k : b.le c) : a.le c := fun x L e => k x L (h x L e)

def FnRel (ν : Nm) : Fn → Fn → Prop
  | .yield l, f => ∃ L, ν l = some L ∧ f = .yield L.blk
  | g, f => f = g

def ARel (ν : Nm) (a : Addr) (b : Addr) : Prop := a.spot = none ∧ ∃ L, ν a.block = some L ∧ b = ⟨L.blk, L.base + a.off, none⟩

mutual
def VRel (ν : Nm) : Value → Value → Prop
  | .pointer (some a), v => ∃ b, ARel ν a b ∧ v = .pointer (some b)
  | .slice (some a) l c, v => ∃ b L, ARel ν a b ∧ ν a.block = some L ∧ v = .slice (some b) l (if c < OPEN then c else c - OPEN + L.slack)
  | .slice none l c, v => c < OPEN ∧ v = .slice none l c
  | .map (some r), v => ∃ L, ν r = some L ∧ v = .map (some L.blk)
  | .chan (some _), _ => False
  | .func f x y, v => ∃ f' x' y', FnRel ν f f' ∧ VRels ν x x' ∧ VRels ν y y' ∧ v = .func f' x' y'
  | .iface t x, v => ∃ x', VRel ν x x' ∧ v = .iface t x'
  | .agg x, v => ∃ x', VRels ν x x' ∧ v = .agg x'
  | .tuple x, v => ∃ x', VRels ν x x' ∧ v = .tuple x'
  | u, v => v = u
def VRels (ν : Nm) : Array Value → Array Value → Prop
  | ⟨x⟩, y => VRell ν x y.toList
def VRell (ν : Nm) : List Value → List Value → Prop
  | [], y => y = []
  | a :: x, y => ∃ b y', y = b :: y' ∧ VRel ν a b ∧ VRell ν x y'
end

theorem FnRel.mono {ν ν' : Nm} (h : ν.le ν') {f g : Fn} (k : FnRel ν f g) : FnRel ν' f g := by
  cases f <;> simp only [FnRel] at * <;> first | exact k | (obtain ⟨L, e, r⟩ := k; exact ⟨L, h _ _ e, r⟩)

theorem ARel.mono {ν ν' : Nm} (h : ν.le ν') {f g : Addr} (k : ARel ν f g) : ARel ν' f g := by
  obtain ⟨e, L, r, q⟩ := k; exact ⟨e, L, h _ _ r, q⟩

mutual
theorem VRel.mono {ν ν' : Nm} (h : ν.le ν') : ∀ {u v : Value}, VRel ν u v → VRel ν' u v
  | .pointer (some a), v => by
    simp only [VRel]; rintro ⟨b, k, e⟩; exact ⟨b, k.mono h, e⟩
  | .slice (some a) l c, v => by
    simp only [VRel]; rintro ⟨b, L, k, e, r⟩; exact ⟨b, L, k.mono h, h _ _ e, r⟩
  | .slice none l c, v => by simp [VRel]
  | .map (some r), v => by simp only [VRel]; rintro ⟨L, k, e⟩; exact ⟨L, h _ _ k, e⟩
  | .chan (some _), _ => by simp [VRel]
  | .func f x y, v => by
    simp only [VRel]; rintro ⟨f', x', y', a, b, c, e⟩; exact ⟨f', x', y', a.mono h, VRels.mono h b, VRels.mono h c, e⟩
  | .iface t x, v => by simp only [VRel]; rintro ⟨x', a, e⟩; exact ⟨x', VRel.mono h a, e⟩
  | .agg x, v => by simp only [VRel]; rintro ⟨x', a, e⟩; exact ⟨x', VRels.mono h a, e⟩
  | .tuple x, v => by simp only [VRel]; rintro ⟨x', a, e⟩; exact ⟨x', VRels.mono h a, e⟩
  | .bool _, v => by simp [VRel]
  | .int _ _, v => by simp [VRel]
  | .float _ _, v => by simp [VRel]
  | .complex _ _ _, v => by simp [VRel]
  | .string _, v => by simp [VRel]
  | .pointer none, v => by simp [VRel]
  | .map none, v => by simp [VRel]
  | .chan none, v => by simp [VRel]
  | .nilFunc, v => by simp [VRel]
  | .nilIface, v => by simp [VRel]
theorem VRels.mono {ν ν' : Nm} (h : ν.le ν') : ∀ {u v : Array Value}, VRels ν u v → VRels ν' u v
  | ⟨x⟩, y => by simp only [VRels]; exact VRell.mono h
theorem VRell.mono {ν ν' : Nm} (h : ν.le ν') : ∀ {u v : List Value}, VRell ν u v → VRell ν' u v
  | [], y => by simp [VRell]
  | a :: x, y => by
    simp only [VRell]; rintro ⟨b, y', e, k, r⟩; exact ⟨b, y', e, VRel.mono h k, VRell.mono h r⟩
end

def DfRel (ν : Nm) (d e : Deferred) : Prop :=
  (match d.target with
   | .fn f c => ∃ f' c', FnRel ν f f' ∧ VRels ν c c' ∧ e.target = .fn f' c'
   | .nil => e.target = .nil
   | .builtin b x t c => e.target = .builtin b x t c
   | .collected r => ∃ L, ν r = some L ∧ e.target = .collected L.blk
   | .coroexit _ => False) ∧ VRels ν d.args e.args

def LRel {α β : Type} (A : α → β → Prop) : List α → List β → Prop
  | [], y => y = []
  | a :: x, y => ∃ b y', y = b :: y' ∧ A a b ∧ LRel A x y'

theorem LRel.mono {α β : Type} {A B : α → β → Prop} (h : ∀ a b, A a b → B a b) : ∀ {x : List α} {y : List β}, LRel A x y → LRel B x y
  | [], _ => fun k => k
  | _ :: _, _ => by simp only [LRel]; rintro ⟨b, y', e, k, r⟩; exact ⟨b, y', e, h _ _ k, LRel.mono h r⟩

def MERel (ν : Nm) (x y : MapEntry) : Prop := VRel ν x.key y.key ∧ VRel ν x.val y.val ∧ y.born = x.born

def LpRel (ν : Nm) (x y : Loop) : Prop :=
  y.state = x.state ∧ y.pending = x.pending ∧ y.fn = x.fn ∧ VRels ν x.tmps y.tmps ∧ y.params = x.params ∧ y.assign = x.assign ∧ y.body = x.body ∧
  (∃ L, ν x.defers = some L ∧ y.defers = L.blk)

def ORel (ν : Nm) : Obj → Obj → Prop
  | .map es c, o => ∃ es', LRel (MERel ν) es.toList es' ∧ o = .map es'.toArray c
  | .stringIter s p, o => o = .stringIter s p
  | .mapIter m a b c, o => ∃ m', (match m with | none => m' = none | some r => ∃ L, ν r = some L ∧ m' = some L.blk) ∧ o = .mapIter m' a b c
  | .loop l, o => ∃ l', LpRel ν l l' ∧ o = .loop l'
  | .deferred none, o => o = .deferred none
  | .deferred (some ds), o => ∃ ds', LRel (DfRel ν) ds ds' ∧ o = .deferred (some ds')
  | _, _ => False

theorem DfRel.mono {ν ν' : Nm} (h : ν.le ν') {d e : Deferred} (k : DfRel ν d e) : DfRel ν' d e := by
  obtain ⟨a, b⟩ := k
  refine ⟨?_, VRels.mono h b⟩
  cases ht : d.target <;> simp only [ht] at a ⊢
  · obtain ⟨f', c', p, q, r⟩ := a; exact ⟨f', c', p.mono h, VRels.mono h q, r⟩
  · exact a
  · exact a
  · obtain ⟨L, p, q⟩ := a; exact ⟨L, h _ _ p, q⟩

theorem MERel.mono {ν ν' : Nm} (h : ν.le ν') {x y : MapEntry} (k : MERel ν x y) : MERel ν' x y := ⟨k.1.mono h, k.2.1.mono h, k.2.2⟩

theorem ORel.mono {ν ν' : Nm} (h : ν.le ν') : ∀ {x y : Obj}, ORel ν x y → ORel ν' x y := by
  intro x y
  cases x with
  | map es c => simp only [ORel]; rintro ⟨es', k, e⟩; exact ⟨es', k.mono fun _ _ => MERel.mono h, e⟩
  | stringIter s p => simp [ORel]
  | mapIter m a b c =>
    simp only [ORel]
    rintro ⟨m', k, e⟩
    refine ⟨m', ?_, e⟩
    cases m with
    | none => exact k
    | some r => obtain ⟨L, p, q⟩ := k; exact ⟨L, h _ _ p, q⟩
  | loop l =>
    simp only [ORel, LpRel]
    rintro ⟨l', ⟨a, b, c, d, e, f, g, L, p, q⟩, r⟩
    exact ⟨l', ⟨a, b, c, VRels.mono h d, e, f, g, L, h _ _ p, q⟩, r⟩
  | deferred ds =>
    cases ds with
    | none => simp [ORel]
    | some ds => simp only [ORel]; rintro ⟨ds', k, e⟩; exact ⟨ds', k.mono fun _ _ => DfRel.mono h, e⟩
  | _ => simp [ORel]

def live : DM → Bool
  | .dead => false
  | .rows _ _ _ => false
  | _ => true
def owns : DM → Bool
  | .cells _ _ .ro _ => false
  | .dead => false
  | .rows _ _ _ => false
  | _ => true
theorem owns_live {m : DM} (h : owns m = true) : live m = true := by cases m <;> simp_all [owns, live]

/-- A block stands to the world as it should. -/
def BRel (P : Program) (ν : Nm) (s : S) (b : Nat) (L : Loc) (w : World) : DM → Prop
  | .dead => True
  | .rows _ _ _ => True
  | .obj o => ∃ o', w.heap[L.blk]? = some o' ∧ ORel ν o o' ∧ L.base = 0
  | .cells len e m fz => ∃ rc re rf, w.heap[L.blk]? = some (.cells rc re rf) ∧ L.base + len ≤ rc.size ∧
      (∀ i v, i < len → s.at b (i + 1) = some (.val v) → isTup v = false → ∃ v', rc[L.base + i]? = some v' ∧ VRel ν v v') ∧
      (m ≠ .ro → re = e ∧ ∀ i, L.base ≤ i → i < rc.size → rf.1 ≤ i → i < rf.2 → fz.1 ≤ i - L.base ∧ i - L.base < fz.2) ∧
      (m = .rw → L.base = 0 ∧ rc.size = len) ∧
      (m = .opn → rc.size = L.base + len + L.slack * P.cellsOf e)

structure R (P : Program) (ν : Nm) (s : S) (w : World) : Prop where
  blk : ∀ b m, s.at b 0 = some (.hd m) → live m = true → ∃ L, ν b = some L ∧ BRel P ν s b L w m
  apart : ∀ b b' m m' L L', s.at b 0 = some (.hd m) → s.at b' 0 = some (.hd m') → owns m = true → live m' = true → ν b = some L → ν b' = some L' → b ≠ b' → L.blk ≠ L'.blk

def Own (ν : Nm) (s : S) (r : Nat) : Prop := ∃ b m L, s.at b 0 = some (.hd m) ∧ owns m = true ∧ ν b = some L ∧ L.blk = r

/-- Data in blocks that F is for. -/
def XRel (F : Nat → Prop) (w : World) : XV → Value → Prop
  | .v x, y => y = x ∧ ∀ ν, VRel ν x x
  | .sl n size row, y => ∃ r base cap, F r ∧ n ≤ cap ∧ y = .slice (some ⟨r, base, none⟩) n cap ∧
      ∀ i j, i < n → j < size → ∃ z, w.cell? ⟨r, base + i * size + j, none⟩ = some z ∧ XRel F w (row i j) z
def XAt (F : Nat → Prop) (w : World) (L : Loc) (n size : Nat) (row : Nat → Nat → XV) : Prop :=
  F L.blk ∧ ∀ i j, i < n → j < size → ∃ z, w.cell? ⟨L.blk, L.base + i * size + j, none⟩ = some z ∧ XRel F w (row i j) z
def Foot (ν : Nm) (s : S) (w : World) (r : Nat) : Prop := r < w.heap.size ∧ ¬ Own ν s r
def RowsOk (ν : Nm) (s : S) (w : World) : Prop := ∀ b n size row, s.at b 0 = some (.hd (.rows n size row)) → ∃ L, ν b = some L ∧ XAt (Foot ν s w) w L n size row
/-- Rows are what they were, or are there. -/
def RowsKept (s : S) (ν' : Nm) (s' : S) (w' : World) : Prop := ∀ b n size row, s'.at b 0 = some (.hd (.rows n size row)) →
  s.at b 0 = some (.hd (.rows n size row)) ∨ ∃ L, ν' b = some L ∧ XAt (Foot ν' s' w') w' L n size row

/-- What an execution leaves as it was. -/
structure Fr (ν : Nm) (s : S) (w : World) (ν' : Nm) (s' : S) (w' : World) : Prop where
  n : s.n ≤ s'.n
  os : w'.os = w.os
  tape : w'.tape = w.tape
  output : w'.output = w.output
  size : w.heap.size ≤ w'.heap.size
  keep : ∀ r, r < w.heap.size → ¬ Own ν s r → w'.heap[r]? = w.heap[r]?
  own : ∀ r, Own ν' s' r → Own ν s r ∨ w.heap.size ≤ r
  ext : ν.le ν'
  dom : ∀ b, ν b = none → (b < s.n ∨ s'.n ≤ b) → ν' b = none
  rows : RowsKept s ν' s' w'

theorem cell_of_heap {w w' : World} {a : Addr} (h : w'.heap[a.block]? = w.heap[a.block]?) : w'.cell? a = w.cell? a := by
  unfold World.cell?
  rw [h]
theorem XRel.mono {F F' : Nat → Prop} {w w' : World} (h : ∀ r, F r → F' r ∧ w'.heap[r]? = w.heap[r]?) : ∀ {x : XV} {y : Value}, XRel F w x y → XRel F' w' x y := by
  intro x
  induction x with
  | v x => intro y k; exact k
  | sl n size row ih =>
    intro y k
    obtain ⟨r, base, cap, hF, hc, rfl, k⟩ := k
    refine ⟨r, base, cap, (h r hF).1, hc, rfl, fun i j hi hj => ?_⟩
    obtain ⟨z, p, q⟩ := k i j hi hj
    exact ⟨z, (cell_of_heap (h r hF).2).trans p, ih i j q⟩
theorem XAt.mono {F F' : Nat → Prop} {w w' : World} {L : Loc} {n size : Nat} {row : Nat → Nat → XV} (h : ∀ r, F r → F' r ∧ w'.heap[r]? = w.heap[r]?) (k : XAt F w L n size row) : XAt F' w' L n size row :=
  ⟨(h _ k.1).1, fun i j hi hj => by
    obtain ⟨z, p, q⟩ := k.2 i j hi hj
    exact ⟨z, (cell_of_heap (h _ k.1).2).trans p, q.mono h⟩⟩
theorem Fr.foot {ν ν' : Nm} {s s' : S} {w w' : World} (h : Fr ν s w ν' s' w') : ∀ r, Foot ν s w r → Foot ν' s' w' r ∧ w'.heap[r]? = w.heap[r]? := fun r k =>
  ⟨⟨Nat.lt_of_lt_of_le k.1 h.size, fun o => by rcases h.own r o with q | q; exact k.2 q; have := k.1; omega⟩, h.keep r k.1 k.2⟩
theorem RowsOk.step {ν ν' : Nm} {s s' : S} {w w' : World} (k : RowsOk ν s w) (h : Fr ν s w ν' s' w') : RowsOk ν' s' w' := fun b n size row hb => by
  rcases h.rows b n size row hb with q | q
  · obtain ⟨L, p, q⟩ := k b n size row q
    exact ⟨L, h.ext _ _ p, q.mono h.foot⟩
  · exact q

theorem Fr.refl (ν : Nm) (s : S) (w : World) : Fr ν s w ν s w :=
  ⟨Nat.le_refl _, rfl, rfl, rfl, Nat.le_refl _, fun _ _ _ => rfl, fun _ h => .inl h, Nm.le_refl _, fun _ h _ => h, fun _ _ _ _ h => .inl h⟩

theorem Fr.trans {ν ν' ν'' : Nm} {s s' s'' : S} {w w' w'' : World} (h : Fr ν s w ν' s' w') (k : Fr ν' s' w' ν'' s'' w'') : Fr ν s w ν'' s'' w'' where
  n := Nat.le_trans h.n k.n
  os := k.os.trans h.os
  tape := k.tape.trans h.tape
  output := k.output.trans h.output
  size := Nat.le_trans h.size k.size
  keep := fun r hr ho => by
    rw [k.keep r (Nat.lt_of_lt_of_le hr h.size) (fun o => by rcases h.own r o with o | o; exact ho o; omega), h.keep r hr ho]
  own := fun r o => by
    rcases k.own r o with o | o
    · exact h.own r o
    · have := h.size; exact .inr (by omega)
  ext := Nm.le_trans h.ext k.ext
  dom := fun b hb hr => by
    have hn := h.n
    have kn := k.n
    exact k.dom b (h.dom b hb (by omega)) (by omega)
  rows := fun b n size row hb => by
    rcases k.rows b n size row hb with q | q
    · rcases h.rows b n size row q with q | ⟨L, p, q⟩
      · exact .inl q
      · exact .inr ⟨L, k.ext _ _ p, q.mono k.foot⟩
    · exact .inr q

def Fresh (ν : Nm) (lo hi : Nat) : Prop := ∀ b, lo ≤ b → b < hi → ν b = none

/-- What an operation comes to, on both sides. -/
def Ends {α β : Type} (P : Program) (A : Nm → α → β → Prop) (ν : Nm) (s : S) (w : World) (s' : S) (res : Result β) : Except Value α → Prop
  | .ok a => ∃ ν' b w', res = .ok b w' ∧ R P ν' s' w' ∧ Fr ν s w ν' s' w' ∧ A ν' a b
  | .error v => ∃ ν' v' w', res = .halt (.panic v') w' ∧ R P ν' s' w' ∧ Fr ν s w ν' s' w' ∧ VRel ν' v v'

/-- q (over abstract values) is followed by q' (over the world's). -/
def Sim {α β : Type} (P : Program) (ν : Nm) (A : Nm → α → β → Prop) (q : Sem α) (q' : Sem β) : Prop :=
  ∀ ν1, ν.le ν1 → ∀ s w r s', R P ν1 s w → emb P q s = some (r, s') → Fresh ν1 s.n s'.n → Ends P A ν1 s w s' (q'.run P w) r

section
variable {P : Program} {ν : Nm}

theorem Sim.mono {α β : Type} {A : Nm → α → β → Prop} {q : Sem α} {q' : Sem β} {ν' : Nm} (hν : ν.le ν') (h : Sim P ν A q q') : Sim P ν' A q q' :=
  fun ν1 h1 => h ν1 (Nm.le_trans hν h1)

theorem M.bind_some {α β : Type} {x : M α} {f : α → M β} {s : S} {r : β × S} (h : M.bind x f s = some r) : ∃ a s1, x s = some (a, s1) ∧ f a s1 = some r := by
  simp only [M.bind] at h
  cases hx : x s with
  | none => rw [hx] at h; simp at h
  | some p => rw [hx] at h; exact ⟨p.1, p.2, rfl, h⟩

theorem emb_bind {α β : Type} (q : Sem α) (f : α → Sem β) : emb P (q.bind f) = M.bind (emb P q) fun r => match r with
    | .ok a => emb P (f a)
    | .error v => fun s => some (.error v, s) := by
  have hb : ∀ {γ δ ε : Type} (x : M γ) (f : γ → M δ) (g : δ → M ε), M.bind (M.bind x f) g = M.bind x fun a => M.bind (f a) g := by
    intro γ δ ε x f g; funext s; simp only [M.bind]; cases x s <;> rfl
  have hf : ∀ {γ δ : Type} (g : γ → M δ), M.bind (fail : M γ) g = fail := by intro γ δ g; rfl
  induction q with
  | pure a => rfl
  | load m a k ih =>
    simp only [Sem.bind, emb]
    split
    · rw [hb]; congr 1; funext v; exact ih v
    · rfl
  | store m a v k ih =>
    simp only [Sem.bind, emb]
    split
    · rw [hb]; congr 1; funext v; exact ih
    · rfl
  | new o k ih => simp only [Sem.bind, emb]; rw [hb]; congr 1; funext v; exact ih v
  | shape r k ih => rfl
  | freeze a n k ih => rfl
  | frozen a k ih => rfl
  | getObj r k ih =>
    simp only [Sem.bind, emb]; rw [hb]; congr 1; funext v
    split <;> first | exact ih _ | rfl
  | setObj r o k ih =>
    simp only [Sem.bind, emb]; rw [hb]; congr 1; funext v
    split
    · split
      · rw [hb]; congr 1; funext v; exact ih
      · rfl
    · rfl
  | choose q k ih =>
    simp only [Sem.bind, emb]
    split
    · exact ih _
    · rfl
  | sys c k ih => rfl
  | program k ih => simp only [Sem.bind, emb]; exact ih _
  | mark m k ih => rfl
  | halt h => 
    simp only [Sem.bind, emb]
    split <;> rfl

theorem run_bind {α β : Type} (q : Sem α) (f : α → Sem β) (w : World) : (q.bind f).run P w = match q.run P w with
    | .ok a w' => (f a).run P w'
    | .halt h w' => .halt h w' := by
  induction q generalizing w with
  | pure a => rfl
  | load m a k ih =>
    simp only [Sem.bind, Sem.run]
    cases w.cell? a with
    | some v => exact ih _ _
    | none => simp only []; split <;> first | exact ih _ _ | simp_all
  | store m a v k ih =>
    simp only [Sem.bind]
    cases v <;> simp only [Sem.run] <;> (try rfl) <;>
      (cases w.cell? a with
       | some v => simp only []; split <;> first | rfl | exact ih _
       | none => simp only []; split <;> first | exact ih _ | simp_all)
  | new o k ih => simp only [Sem.bind, Sem.run]; exact ih _ _
  | shape r k ih => simp only [Sem.bind, Sem.run]; exact ih _ _
  | freeze a n k ih => simp only [Sem.bind, Sem.run]; exact ih _
  | frozen a k ih => simp only [Sem.bind, Sem.run]; exact ih _ _
  | getObj r k ih =>
    simp only [Sem.bind, Sem.run]
    split <;> first | rfl | exact ih _ _ | simp_all
  | setObj r o k ih =>
    simp only [Sem.bind, Sem.run]
    split <;> first | rfl | exact ih _ | simp_all
  | choose q k ih => simp only [Sem.bind, Sem.run]; split <;> exact ih _ _
  | sys c k ih => simp only [Sem.bind, Sem.run]; exact ih _ _
  | program k ih => simp only [Sem.bind, Sem.run]; exact ih _ _
  | mark m k ih => simp only [Sem.bind, Sem.run]; exact ih _
  | halt h => rfl


/-- A computation that never takes a name back. -/
def Up {α : Type} (x : M α) : Prop := ∀ s a s', x s = some (a, s') → s.n ≤ s'.n
theorem Up.bind {α β : Type} {x : M α} {f : α → M β} (h : Up x) (k : ∀ a, Up (f a)) : Up (M.bind x f) := by
  intro s b s' e
  obtain ⟨a, s1, h1, h2⟩ := M.bind_some e
  exact Nat.le_trans (h _ _ _ h1) (k a _ _ _ h2)
theorem Up.pure {α : Type} (a : α) : Up (fun s => some (a, s) : M α) := by
  intro s b s' e; simp only [Option.some.injEq, Prod.mk.injEq] at e; rw [e.2]; exact Nat.le_refl _
theorem Up.pure' {α : Type} (a : α) : Up (Pure.pure a : M α) := Up.pure a
theorem Up.fail {α : Type} : Up (Dee.fail : M α) := by intro s b s' e; simp [Dee.fail] at e
theorem note_n (s : S) (b j : Nat) (w : Bool) : (s.note b j w).n = s.n := by unfold S.note; split <;> rfl
theorem Up.rdK (b j : Nat) : Up (Dee.rdK b j) := by
  intro s a s' e
  simp only [Dee.rdK] at e
  split at e
  · split at e
    · simp at e
    · simp only [Option.some.injEq, Prod.mk.injEq] at e; rw [← e.2, note_n]; exact Nat.le_refl _
  · simp at e
theorem Up.wrK (b j : Nat) (x : KV) : Up (Dee.wrK b j x) := by
  intro s a s' e
  simp only [Dee.wrK] at e
  split at e
  · simp only [Option.some.injEq, Prod.mk.injEq] at e
    rw [← e.2, note_n]; exact Nat.le_refl _
  · simp at e
theorem Up.newB (t : T KV) : Up (Dee.newB t) := by
  intro s a s' e
  simp only [Dee.newB, Option.some.injEq, Prod.mk.injEq] at e
  rw [← e.2]; simp
theorem Up.rd (b i : Nat) : Up (Dee.rd b i) := by
  refine Up.bind (Up.rdK _ _) fun x => ?_
  split
  · split
    · refine Up.bind (Up.rdK _ _) fun x => ?_
      split
      · split
        · exact Up.fail
        · exact Up.pure' _
      · exact Up.fail
    · exact Up.fail
  · exact Up.fail
theorem Up.wr (b i : Nat) (v : Value) : Up (Dee.wr b i v) := by
  refine Up.bind (Up.rdK _ _) fun x => ?_
  split
  · split
    · exact Up.wrK _ _ _
    · exact Up.fail
  · exact Up.fail
theorem Up.newObjD (o : Obj) : Up (Dee.newObjD o) := by
  unfold Dee.newObjD
  split
  · exact Up.newB _
  · exact Up.fail
  · split
    · exact Up.newB _
    · exact Up.fail
theorem Up.emb {α : Type} (q : Sem α) : Up (Dee.emb P q) := by
  induction q with
  | pure a => exact Up.pure _
  | load m a k ih =>
    simp only [Dee.emb]; split
    · exact Up.bind (Up.rd _ _) ih
    · exact Up.fail
  | store m a v k ih =>
    simp only [Dee.emb]; split
    · exact Up.bind (Up.wr _ _ _) fun _ => ih
    · exact Up.fail
  | new o k ih => exact Up.bind (Up.newObjD _) ih
  | shape r k ih => exact Up.fail
  | freeze a n k ih => exact Up.fail
  | frozen a k ih => exact Up.fail
  | getObj r k ih =>
    simp only [Dee.emb]
    refine Up.bind (Up.rdK _ _) fun x => ?_
    split <;> first | exact ih _ | exact Up.fail
  | setObj r o k ih =>
    refine Up.bind (Up.rdK _ _) fun x => ?_
    split
    · split
      · exact Up.bind (Up.wrK _ _ _) fun _ => ih
      · exact Up.fail
    · exact Up.fail
  | choose q k ih => simp only [Dee.emb]; split <;> first | exact ih _ | exact Up.fail
  | sys c k ih => exact Up.fail
  | program k ih => exact ih _
  | mark m k ih => exact Up.fail
  | halt h => simp only [Dee.emb]; split <;> first | exact Up.pure _ | exact Up.fail

theorem Fresh.sub {lo hi lo' hi' : Nat} (h : Fresh ν lo hi) (a : lo ≤ lo') (b : hi' ≤ hi) : Fresh ν lo' hi' :=
  fun x p q => h x (by omega) (by omega)
theorem Fresh.later {ν' : Nm} {s s1 : S} {w w1 : World} {hi : Nat} (h : Fresh ν s.n hi) (k : Fr ν s w ν' s1 w1) (_hn : s1.n ≤ hi) : Fresh ν' s1.n hi :=
  fun x p q => by
    have := k.n
    exact k.dom x (h x (by omega) q) (.inr p)

theorem Sim.bind {α β γ δ : Type} {A : Nm → α → β → Prop} {B : Nm → γ → δ → Prop} {q : Sem α} {q' : Sem β} {f : α → Sem γ} {f' : β → Sem δ}
    (h : Sim P ν A q q') (k : ∀ ν1, ν.le ν1 → ∀ a b, A ν1 a b → Sim P ν1 B (f a) (f' b)) : Sim P ν B (q.bind f) (q'.bind f') := by
  intro ν1 hν s w r s' hR hrun hF
  rw [emb_bind] at hrun
  obtain ⟨x, s1, h1, h2⟩ := M.bind_some hrun
  have hn1 := Up.emb q _ _ _ h1
  cases x with
  | error v =>
    simp only [Option.some.injEq, Prod.mk.injEq] at h2
    obtain ⟨rfl, rfl⟩ := h2
    obtain ⟨ν', v', w', e1, hR', hFr, hv⟩ := h ν1 hν s w _ s1 hR h1 hF
    exact ⟨ν', v', w', by rw [run_bind, e1], hR', hFr, hv⟩
  | ok a =>
    simp only at h2
    have hn2 := Up.emb _ _ _ _ h2
    obtain ⟨ν', b, w', e1, hR', hFr, hA⟩ := h ν1 hν s w _ s1 hR h1 (hF.sub (Nat.le_refl _) hn2)
    have h3 := k ν' (Nm.le_trans hν hFr.ext) a b hA ν' (Nm.le_refl _) s1 w' r s' hR' h2 (hF.later hFr hn2)
    rw [run_bind, e1]
    cases r with
    | ok c =>
      obtain ⟨ν2, d, w2, e2, hR2, hFr2, hB⟩ := h3
      exact ⟨ν2, d, w2, e2, hR2, hFr.trans hFr2, hB⟩
    | error v =>
      obtain ⟨ν2, d, w2, e2, hR2, hFr2, hB⟩ := h3
      exact ⟨ν2, d, w2, e2, hR2, hFr.trans hFr2, hB⟩

theorem Sim.pure {α β : Type} {A : Nm → α → β → Prop} {a : α} {b : β} (h : ∀ ν1, ν.le ν1 → A ν1 a b) : Sim P ν A (Pure.pure a) (Pure.pure b) := by
  intro ν1 hν s w r s' hR hrun _
  simp only [Pure.pure, emb, Option.some.injEq, Prod.mk.injEq] at hrun
  obtain ⟨rfl, rfl⟩ := hrun
  exact ⟨ν1, b, w, rfl, hR, Fr.refl _ _ _, h ν1 hν⟩
theorem Sim.fail {α β : Type} {A : Nm → α → β → Prop} {q : Sem α} {q' : Sem β} (h : emb P q = Dee.fail) : Sim P ν A q q' := by
  intro ν1 hν s w r s' hR hrun
  rw [h] at hrun; simp [Dee.fail] at hrun
theorem Sim.stuck {α β : Type} {A : Nm → α → β → Prop} {m : String} {q' : Sem β} : Sim P ν A (stuck m : Sem α) q' := Sim.fail rfl
theorem Sim.unsupported {α β : Type} {A : Nm → α → β → Prop} {m : Unsupported} {q' : Sem β} : Sim P ν A (unsupported m : Sem α) q' := Sim.fail rfl
theorem Sim.program {α β : Type} {A : Nm → α → β → Prop} {f : Program → Sem α} {f' : Program → Sem β} (h : Sim P ν A (f P) (f' P)) :
    Sim P ν A (Go.program.bind f) (Go.program.bind f') := h
theorem Sim.conseq {α β : Type} {A B : Nm → α → β → Prop} {q : Sem α} {q' : Sem β} (h : Sim P ν A q q') (k : ∀ ν1 a b, A ν1 a b → B ν1 a b) : Sim P ν B q q' := by
  intro ν1 hν s w r s' hR hrun hF
  have := h ν1 hν s w r s' hR hrun hF
  cases r with
  | ok a => obtain ⟨ν', b, w', e, hR', hFr, hA⟩ := this; exact ⟨ν', b, w', e, hR', hFr, k _ _ _ hA⟩
  | error v => exact this
end
end Go.Dee
