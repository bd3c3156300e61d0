/- Dee, part 8: append; bytes of a string. -/
import Derived.Test.YtmopbdalpkcffaaDoorDee7
namespace Go.Dee
open Go
section
variable {P : Program} {ν : Nm}

def SimM {α β : Type} (P : Program) (ν : Nm) (A : Nm → α → β → Prop) (p : M α) (q : Sem β) : Prop :=
  ∀ ν1, ν.le ν1 → ∀ s w a s', R P ν1 s w → p s = some (a, s') → Fresh ν1 s.n s'.n → ∃ ν' b w', q.run P w = .ok b w' ∧ R P ν' s' w' ∧ Fr ν1 s w ν' s' w' ∧ A ν' a b

theorem embV_some {α : Type} {q : Sem α} {s s' : S} {a : α} (h : embV P q s = some (a, s')) : emb P q s = some (.ok a, s') := by
  obtain ⟨r, s1, h1, h2⟩ := M.bind_some h
  cases r with
  | ok b => obtain ⟨rfl, rfl⟩ := pure_some h2; exact h1
  | error v => exact (fail_some h2).elim
theorem SimM.of {α β : Type} {A : Nm → α → β → Prop} {q : Sem α} {q' : Sem β} (h : Sim P ν A q q') : SimM P ν A (embV P q) q' :=
  fun ν1 e s w a s' hR hrun hF => h ν1 e s w _ s' hR (embV_some hrun) hF
theorem Up.embV {α : Type} (q : Sem α) : Up (Dee.embV P q) := Up.bind (Up.emb q) fun r => match r with
  | .error _ => Up.fail
  | .ok _ => Up.pure' _

theorem SimM.bind {α β γ δ : Type} {A : Nm → α → β → Prop} {B : Nm → γ → δ → Prop} {p : M α} {q : Sem β} {f : α → M γ} {g : β → Sem δ}
    (h : SimM P ν A p q) (hp : Up p) (hf : ∀ a, Up (f a)) (k : ∀ ν1, ν.le ν1 → ∀ a b, A ν1 a b → SimM P ν1 B (f a) (g b)) : SimM P ν B (M.bind p f) (q.bind g) := by
  intro ν1 e s w c s' hR hrun hF
  obtain ⟨a, s1, h1, h2⟩ := M.bind_some hrun
  have n1 := hp _ _ _ h1
  have n2 := hf _ _ _ _ h2
  obtain ⟨ν2, b, w2, r2, hR2, hF2, hA⟩ := h ν1 e s w a s1 hR h1 (hF.sub (Nat.le_refl _) n2)
  obtain ⟨ν3, d, w3, r3, hR3, hF3, hB⟩ := k ν2 (Nm.le_trans e hF2.ext) a b hA ν2 (Nm.le_refl _) s1 w2 c s' hR2 h2 (hF.later hF2 n2)
  exact ⟨ν3, d, w3, by rw [run_bind, r2]; exact r3, hR3, hF2.trans hF3, hB⟩

/-- A block is let go. -/
theorem R.kill {s : S} {w : World} (hR : R P ν s w) (b : Nat) : R P ν (s.put b 0 (.hd .dead)) w where
  blk := fun b' m hb hl => by
    rw [S.at_put] at hb
    by_cases h : b' = b
    · rw [if_pos ⟨h, rfl⟩] at hb
      obtain rfl := KV.hd.inj (Option.some.inj hb)
      simp [live] at hl
    · rw [if_neg (by simp [h])] at hb
      obtain ⟨L, p, q⟩ := hR.blk b' m hb hl
      exact ⟨L, p, q.ext (Nm.le_refl _) (fun j => by rw [S.at_put, if_neg (by simp [h])]) rfl⟩
  apart := fun b1 b2 m1 m2 L1 L2 h1 h2 ho hl e1 e2 hne => by
    rw [S.at_put] at h1 h2
    by_cases h : b1 = b
    · rw [if_pos ⟨h, rfl⟩] at h1
      obtain rfl := KV.hd.inj (Option.some.inj h1)
      simp [owns] at ho
    · rw [if_neg (by simp [h])] at h1
      by_cases h' : b2 = b
      · rw [if_pos ⟨h', rfl⟩] at h2
        obtain rfl := KV.hd.inj (Option.some.inj h2)
        simp [live] at hl
      · rw [if_neg (by simp [h'])] at h2
        exact hR.apart b1 b2 m1 m2 L1 L2 h1 h2 ho hl e1 e2 hne
theorem Own.kill {s : S} {b r : Nat} (h : Own ν (s.put b 0 (.hd .dead)) r) : Own ν s r := by
  obtain ⟨b', m, L, h1, h2, h3, h4⟩ := h
  rw [S.at_put] at h1
  by_cases h : b' = b
  · rw [if_pos ⟨h, rfl⟩] at h1
    obtain rfl := KV.hd.inj (Option.some.inj h1)
    simp [owns] at h2
  · rw [if_neg (by simp [h])] at h1
    exact ⟨b', m, L, h1, h2, h3, h4⟩
theorem Fr.kill (s : S) (w : World) (b : Nat) : Fr ν s w ν (s.put b 0 (.hd .dead)) w :=
  ⟨Nat.le_refl _, rfl, rfl, rfl, Nat.le_refl _, fun _ _ _ => rfl, fun _ h => .inl h.kill, Nm.le_refl _, fun _ h _ => h, fun b' n size row q => .inl (by
    rw [S.at_put] at q
    by_cases h : b' = b
    · rw [if_pos ⟨h, rfl⟩] at q; simp at q
    · rw [if_neg (by simp [h])] at q; exact q)⟩
theorem wrK_same {s s1 s' : S} {b j : Nat} {x : KV} {u : Unit} (hS : Same s s1) (h : wrK b j x s1 = some (u, s')) : Same (s.put b j x) s' := by
  obtain ⟨_, rfl⟩ := wrK_some h
  exact Same.trans (b := s1.put b j x) ⟨fun b' j' => by simp only [S.at_put, hS.at_], hS.n⟩ (Same.note _ _ _ _)

/-- What was read by loadCells. -/
theorem loadCellsFrom_some : ∀ (n : Nat) (a : Addr) (i : Nat) (acc : Array Value) (s s' : S) (r : Array Value), a.spot = none → embV P (loadCellsFrom a i n acc) s = some (r, s') →
    Same s s' ∧ ∃ vs : List Value, r = acc ++ vs.toArray ∧ vs.length = n ∧ ∀ (j : Nat) (v : Value), vs[j]? = some v → s.at a.block (a.off + i + j + 1) = some (.val v) ∧ isTup v = false := by
  intro n
  induction n with
  | zero =>
    intro a i acc s s' r ha h
    obtain ⟨rfl, rfl⟩ := pure_some (show (Pure.pure acc : M _) s = some (r, s') from h)
    exact ⟨Same.refl _, [], by simp, rfl, by simp⟩
  | succ n ih =>
    intro a i acc s s' r ha h
    have h' := embV_some h
    have e : loadCellsFrom a i (n + 1) acc = Sem.bind (Go.load (a.add i)) fun v => loadCellsFrom a (i + 1) n (acc.push v) := rfl
    rw [e, emb_bind] at h'
    obtain ⟨x, s1, h1, h2⟩ := M.bind_some h'
    unfold Go.load at h1
    simp only [emb] at h1
    split at h1
    case isFalse => exact (fail_some h1).elim
    obtain ⟨v, s2, h3, h4⟩ := M.bind_some h1
    obtain ⟨rfl, rfl⟩ := pure_some h4
    obtain ⟨len, em, m, fz, g1, g2, g3, g4, g5⟩ := rd_some h3
    simp only at h2
    have h5 : embV P (loadCellsFrom a (i + 1) n (acc.push v)) s1 = some (r, s') := by
      show M.bind _ _ _ = _
      simp only [M.bind, h2]
      rfl
    obtain ⟨q1, vs, q2, q3, q4⟩ := ih a (i + 1) (acc.push v) s1 s' r ha h5
    refine ⟨g5.trans q1, v :: vs, by rw [q2]; apply Array.ext'; simp, by simp [q3], fun j u hj => ?_⟩
    have hoff : (a.add i).off = a.off + i := by unfold Addr.add; split <;> simp_all
    have hblk : (a.add i).block = a.block := by unfold Addr.add; split <;> rfl
    rw [hoff, hblk] at g3
    cases j with
    | zero => simp at hj; subst hj; exact ⟨g3, g4⟩
    | succ j =>
      simp at hj
      have := q4 j u hj
      rw [g5.at_] at this
      rw [show a.off + i + (j + 1) + 1 = a.off + (i + 1) + j + 1 from by omega]
      exact this
theorem loadCells_some {n : Nat} {a : Addr} {s s' : S} {r : Array Value} (ha : a.spot = none) (h : embV P (loadCells a n) s = some (r, s')) :
    Same s s' ∧ r.size = n ∧ ∀ (j : Nat) (v : Value), r[j]? = some v → s.at a.block (a.off + j + 1) = some (.val v) ∧ isTup v = false := by
  obtain ⟨h1, vs, h2, h3, h4⟩ := loadCellsFrom_some n a 0 #[] s s' r ha h
  subst h2
  refine ⟨h1, by simp [h3], fun j v hj => ?_⟩
  have := h4 j v (by simpa using hj)
  simpa using this

theorem lenOf_eq {x : Value} (h : tag x = 6 ∨ tag x = 4) : Builtin.lenOf x = Pure.pure (lenD x) := by
  cases x <;> simp [tag] at h <;> rfl
theorem lenD_rel {x x' : Value} (h : VRel ν x x') : lenD x' = lenD x := by
  cases x with
  | slice a l c => obtain ⟨_, _, rfl, _⟩ := slc_rel h; rfl
  | string s => rw [VRel.string] at h; subst h; rfl
  | _ => have := h.tag; cases x' <;> simp [tag] at this <;> rfl

theorem run_und {α : Type} {t : TypeId} {d : TypeDesc} (h : P.underlying t = some d) (f : TypeDesc → Sem α) (w : World) : (Go.underlying t >>= f).run P w = (f d).run P w := by
  show (Sem.bind (Sem.program fun p => match p.underlying t with | some d => Pure.pure d | none => Go.stuck "no such type") f).run P w = _
  simp only [Sem.bind, Sem.run, h]
  rfl
theorem run_info {α : Type} {t : TypeId} {d : TypeInfo} (h : P.info? t = some d) (f : TypeInfo → Sem α) (w : World) : (Go.typeInfo t >>= f).run P w = (f d).run P w := by
  show (Sem.bind (Sem.program fun p => match p.info? t with | some d => Pure.pure d | none => Go.stuck "no such type") f).run P w = _
  simp only [Sem.bind, Sem.run, h]
  rfl
theorem run_size {α : Type} {t : TypeId} {d : TypeInfo} (h : P.info? t = some d) (f : Nat → Sem α) (w : World) : (Go.sizeOf t >>= f).run P w = (f d.size).run P w := by
  show (Sem.bind (Sem.bind (Sem.program fun p => match p.info? t with | some d => Pure.pure d | none => Go.stuck "no such type") _) f).run P w = _
  simp only [Sem.bind, Sem.run, h]
  rfl
theorem run_zero {α : Type} {t : TypeId} {d : TypeInfo} {z : Value} (h : P.info? t = some d) (hz : d.zero = some z) (f : Value → Sem α) (w : World) : (Go.zeroValue t >>= f).run P w = (f z).run P w := by
  show (Sem.bind (Sem.bind (Sem.program fun p => match p.info? t with | some d => Pure.pure d | none => Go.stuck "no such type") _) f).run P w = _
  simp only [Sem.bind, Sem.run, h]
  show (Sem.bind (Sem.bind (Pure.pure d) fun i => match i.zero with | some v => Pure.pure v | none => Go.unsupported _) f).run P w = _
  simp only [Sem.bind, Pure.pure, hz]

theorem growBy_le (n : Nat) : ∀ (r c : Nat), Builtin.growBy n r c ≤ c + n + n / 4 + 200 ∧ (c ≤ n → Builtin.growBy n r c ≤ n + n / 4 + 200) := by
  intro r
  induction r with
  | zero => intro c; simp only [Builtin.growBy]; omega
  | succ r ih =>
    intro c
    simp only [Builtin.growBy]
    split
    · omega
    · rename_i h
      have := ih (c + (c + 768) / 4)
      by_cases h2 : c + (c + 768) / 4 ≤ n
      · have := this.2 h2; omega
      · cases r with
        | zero => simp only [Builtin.growBy]; omega
        | succ r => simp only [Builtin.growBy]; rw [if_pos (by omega)]; omega

section append
variable {sType xType elem : TypeId} {xd : TypeDesc} {info : TypeInfo} {ts : Array TypeId} {T : TypeId}

def tailIn (base : Option Addr) (sLen sCap need size n : Nat) (x : Value) : Sem Value := do
  let new ← Builtin.firstCells size n x
  match base with
    | some a => do
      storeCells (a.add (sLen * size)) new.toList
      Pure.pure (Value.slice base need sCap)
    | _ => Pure.pure (Value.slice base need sCap)

def tailNew (elem : TypeId) (z : Value) (sLen need size n newCap : Nat) (s x : Value) : Sem Value := do
  let old ← Builtin.firstCells size sLen s
  let new ← Builtin.firstCells size n x
  let a ← newRow elem (old ++ new ++ Builtin.zeroCells z.cells (newCap - need))
  Pure.pure (Value.slice (some a) need newCap)

theorem append_in (h0 : ts[0]? = some sType) (h1 : ts[1]? = some xType) (hs : P.underlying sType = some (.slice elem)) (hx : P.underlying xType = some xd) (hi : P.info? elem = some info)
    (hn : isInt xd = false) {args : Array Value} {base : Option Addr} {sLen sCap : Nat} {x : Value} (ha : args[0]? = some (.slice base sLen sCap)) (hb : args[1]? = some x)
    (ht : tag x = 6 ∨ tag x = 4) (hle : sLen + lenD x ≤ sCap) (w : World) :
    (Builtin.append_ ts T args).run P w = (tailIn base sLen sCap (sLen + lenD x) info.size (lenD x) x).run P w := by
  unfold Builtin.append_
  rw [h0, ha, hb]
  simp only []
  rw [run_und hs]
  simp only []
  rw [run_size hi]
  rw [h1]
  simp only []
  rw [run_und hx]
  cases xd <;> first | (simp [isInt] at hn; done) | skip
  all_goals
    rw [lenOf_eq ht]
    simp only [Pure.pure, Bind.bind, Sem.bind, Bool.false_eq_true, if_false, Bool.not_false, if_true, hle]
    cases base <;> rfl

theorem append_new (h0 : ts[0]? = some sType) (h1 : ts[1]? = some xType) (hs : P.underlying sType = some (.slice elem)) (hx : P.underlying xType = some xd) (hi : P.info? elem = some info)
    (hn : isInt xd = false) {args : Array Value} {base : Option Addr} {sLen sCap : Nat} {x z : Value} (ha : args[0]? = some (.slice base sLen sCap)) (hb : args[1]? = some x)
    (ht : tag x = 6 ∨ tag x = 4) (hle : ¬ sLen + lenD x ≤ sCap) (hz : info.zero = some z) (hroom : (3 * (sLen + lenD x) + 2000) * info.bytes ≤ 140737488355328) (hneed : sLen + lenD x ≤ 1099511627776) (w : World) :
    ∃ newCap, sLen + lenD x ≤ newCap ∧
      (Builtin.append_ ts T args).run P w = (tailNew elem z sLen (sLen + lenD x) info.size (lenD x) newCap (.slice base sLen sCap) x).run P { w with drawn := w.drawn + 1 } := by
  refine ⟨Question.cut (.appendCap (sLen + lenD x) sCap elem) (w.tape w.drawn (.appendCap (sLen + lenD x) sCap elem)), by simp [Question.cut], ?_⟩
  unfold Builtin.append_
  rw [h0, ha, hb]
  simp only []
  rw [run_und hs]
  simp only []
  rw [run_size hi]
  rw [h1]
  simp only []
  rw [run_und hx]
  cases xd <;> first | (simp [isInt] at hn; done) | skip
  all_goals
    rw [lenOf_eq ht]
    have hpure : ∀ {α β : Type} (a : α) (f : α → Sem β), (Pure.pure a >>= f) = f a := fun a f => rfl
    simp only [hpure, Bool.false_eq_true, if_false, Bool.not_false, if_true, if_neg hle]
    rw [run_info hi]
    rw [if_neg (by
      rintro ⟨h, _⟩
      have : IntKind.i64.max = 9223372036854775807 := by decide
      omega)]
    rw [run_info hi]
    have hcap : Builtin.nextslicecap (sLen + lenD x) sCap ≤ 3 * (sLen + lenD x) + 2000 := by
      unfold Builtin.nextslicecap
      split
      · omega
      · split
        · omega
        · have := (growBy_le (sLen + lenD x) 4 sCap).2 (by omega)
          omega
    have hcap2 := Nat.mul_le_mul_right info.bytes hcap
    rw [if_neg (by omega)]
    have hch : ∀ {α : Type} (q : Question) (f : Nat → Sem α) (w : World), q.forced = false → (choose q >>= f).run P w = (f (q.cut (w.tape w.drawn q))).run P { w with drawn := w.drawn + 1 } := by
      intro α q f w hq
      show (Sem.bind (.choose q .pure) f).run P w = _
      simp only [Sem.bind, Sem.run, hq]
      rfl
    rw [hch _ _ _ rfl]
    rw [run_info hi]
    have hroom2 : ∀ {α : Type} (n : Nat) (f : Unit → Sem α) (w : World), (askRoom n >>= f).run P w = (f ()).run P w := by
      intro α n f w
      unfold askRoom
      split <;> rfl
    rw [hroom2]
    have hbr : ∀ {α β : Type} (q : Sem α) (f g : α → Sem β) (w : World), (∀ a w, (f a).run P w = (g a).run P w) → (q >>= f).run P w = (q >>= g).run P w := by
      intro α β q f g w h
      show (q.bind f).run P w = (q.bind g).run P w
      rw [run_bind, run_bind]
      cases q.run P w with
      | ok a w => exact h a w
      | halt h w => rfl
    unfold tailNew
    refine hbr _ _ _ _ fun old w => ?_
    refine hbr _ _ _ _ fun new w => ?_
    rw [run_zero hi hz]

def ZSize (P : Program) : Prop := ∀ t i v, P.info? t = some i → i.zero = some v → v.cells.size = i.size

theorem zeroCells_size (z : Array Value) (n : Nat) : (Builtin.zeroCells z n).size = n * z.size := by simp [Builtin.zeroCells]

theorem newCells_up (c : List Value) (e : TypeId) (m : BMode) (fz : Nat × Nat) : Up (Dee.newCells c e m fz) := Up.newB _

theorem R.drew {s : S} {w : World} (h : R P ν s w) : R P ν s { w with drawn := w.drawn + 1 } := by
  refine ⟨fun b m hb hl => ?_, h.apart⟩
  obtain ⟨L, p, q⟩ := h.blk b m hb hl
  exact ⟨L, p, q.ext (Nm.le_refl _) (fun _ => rfl) rfl⟩
theorem Fr.drew (s : S) (w : World) : Fr ν s w ν s { w with drawn := w.drawn + 1 } :=
  ⟨Nat.le_refl _, rfl, rfl, rfl, Nat.le_refl _, fun _ _ _ => rfl, fun _ h => .inl h, Nm.le_refl _, fun _ h _ => h, fun _ _ _ _ h => .inl h⟩

/-- The new array, on both sides: what is old was read, or is read now. -/
theorem app_new {s s1 s2 s3 : S} {b : Nat} {w : World} {x x' : Value} {size n newCap need : Nat} {z : Value} {fz : Nat × Nat}
    (hF : Fresh ν s.n s3.n) (hx : VRel ν x x') {old new : Array Value} {olds : Sem (Array Value)} (hn2 : s1.n ≤ s2.n) (hn3 : s2.n ≤ s3.n)
    (hold : Fresh ν s.n s1.n → ∃ ν' o w', olds.run P w = .ok o w' ∧ R P ν' s1 w' ∧ Fr ν s w ν' s1 w' ∧ VRels ν' old o)
    (hnew : embV P (Builtin.firstCells size n x) s1 = some (new, s2))
    (hcap : need ≤ newCap) (hz : z.cells.size = size) (hsz : P.cellsOf elem = size)
    (sk : S) (hsk : ∀ ν w, R P ν s2 w → R P ν sk w ∧ Fr ν s2 w ν sk w) (hk : Dee.newCells (old ++ new).toList elem .opn fz sk = some (b, s3)) :
    ∃ ν' v' w', (do
        let old ← olds
        let new ← Builtin.firstCells size n x'
        let a ← newRow elem (old ++ new ++ Builtin.zeroCells z.cells (newCap - need))
        Pure.pure (Value.slice (some a) need newCap) : Sem Value).run P w = .ok v' w' ∧ R P ν' s3 w' ∧ Fr ν s w ν' s3 w' ∧ VRel ν' (.slice (some ⟨b, 0, none⟩) need (OPEN + need)) v' := by
  obtain ⟨ν1, o, w1, r1, hR1, hF1, hA1⟩ := hold (hF.sub (Nat.le_refl _) (by omega))
  obtain ⟨ν2, nw, w2, r2, hR2, hF2, hA2⟩ := SimM.of (Sim.firstCells size n (hx.mono hF1.ext)) ν1 (Nm.le_refl _) s1 w1 new s2 hR1 hnew ((hF.later hF1 (by omega)).sub (Nat.le_refl _) hn3)
  have hFr2 := hF1.trans hF2
  have key : ∀ sk : S, R P ν2 sk w2 → Fr ν2 s2 w2 ν2 sk w2 → newCells (old ++ new).toList elem .opn fz sk = some (b, s3) →
      ∃ ν', R P ν' s3 { w2 with heap := w2.heap.push (.cells (o ++ nw ++ Builtin.zeroCells z.cells (newCap - need)) elem (0, 0)) } ∧
        Fr ν2 s2 w2 ν' s3 { w2 with heap := w2.heap.push (.cells (o ++ nw ++ Builtin.zeroCells z.cells (newCap - need)) elem (0, 0)) } ∧ ν' b = some ⟨w2.heap.size, 0, newCap - need⟩ := by
    intro sk hRk hFk hnk
    have hn := newCells_up _ _ _ _ _ _ _ hnk
    obtain ⟨ν3, p, q, r⟩ := Sim.cells hRk (((hF.later hFr2 (by omega)).later hFk hn)) hnk ((VRels.append (VRels.mono hF2.ext hA1) hA2).toList) (Builtin.zeroCells z.cells (newCap - need)).toList (0, 0) (newCap - need)
      (fun _ i _ a c => absurd c (by omega)) (fun h => by simp at h) (fun _ => by rw [hsz, Array.length_toList, zeroCells_size, hz])
    have e : ((o ++ nw).toList ++ (Builtin.zeroCells z.cells (newCap - need)).toList).toArray = o ++ nw ++ Builtin.zeroCells z.cells (newCap - need) := by apply Array.ext'; simp
    rw [e] at p q
    exact ⟨ν3, p, hFk.trans q, r⟩
  have : ∃ ν', R P ν' s3 { w2 with heap := w2.heap.push (.cells (o ++ nw ++ Builtin.zeroCells z.cells (newCap - need)) elem (0, 0)) } ∧
        Fr ν2 s2 w2 ν' s3 { w2 with heap := w2.heap.push (.cells (o ++ nw ++ Builtin.zeroCells z.cells (newCap - need)) elem (0, 0)) } ∧ ν' b = some ⟨w2.heap.size, 0, newCap - need⟩ := by
    obtain ⟨p, q⟩ := hsk ν2 w2 hR2
    exact key sk p q hk
  obtain ⟨ν3, hR3, hF3, hb⟩ := this
  refine ⟨ν3, .slice (some ⟨w2.heap.size, 0, none⟩) need newCap, _, ?_, hR3, hFr2.trans hF3, ?_⟩
  · show (Sem.bind olds _).run P w = _
    rw [run_bind, r1]
    show (Sem.bind (Builtin.firstCells size n x') _).run P w1 = _
    rw [run_bind, r2]
    rfl
  · refine ⟨⟨w2.heap.size, 0, none⟩, _, ⟨rfl, _, hb, rfl⟩, hb, ?_⟩
    rw [if_neg (by omega)]
    congr 1
    show newCap = OPEN + need - OPEN + (newCap - need)
    omega

theorem loadCells_same {n : Nat} {a : Addr} {s s' : S} {r : Array Value} (h : embV P (loadCells a n) s = some (r, s')) : Same s s' := by
  by_cases ha : a.spot = none
  · exact (loadCells_some ha h).1
  · cases n with
    | zero =>
      obtain ⟨rfl, rfl⟩ := pure_some (show (Pure.pure #[] : M _) s = some (r, s') from h)
      exact Same.refl _
    | succ m =>
      have h' := embV_some h
      have e : loadCells a (m + 1) = Sem.bind (Go.load (a.add 0)) fun v => loadCellsFrom a 1 m (#[].push v) := rfl
      rw [e, emb_bind] at h'
      obtain ⟨y, s1, h1, h2⟩ := M.bind_some h'
      unfold Go.load at h1
      simp only [emb] at h1
      rw [if_neg] at h1
      · exact (fail_some h1).elim
      · unfold Addr.add
        simp [ha]
theorem firstCells_same {size n : Nat} {x : Value} {s s' : S} {r : Array Value} (h : embV P (Builtin.firstCells size n x) s = some (r, s')) : Same s s' := by
  cases x <;> first | exact (fail_some (show (Dee.fail : M (Array Value)) s = some (r, s') from h)).elim | skip
  case slice base l c =>
    cases base with
    | none =>
      obtain ⟨rfl, rfl⟩ := pure_some (show (Pure.pure #[] : M _) s = some (r, s') from h)
      exact Same.refl _
    | some a => exact loadCells_same h
  case string b =>
    obtain ⟨_, rfl⟩ := pure_some (show (Pure.pure _ : M _) s = some (r, s') from h)
    exact Same.refl _

def wrA (c : Array Value) (i : Nat) : List Value → Array Value
  | [] => c
  | v :: vs => wrA (c.setIfInBounds i v) (i + 1) vs
theorem wrA_size : ∀ (vs : List Value) (c : Array Value) (i : Nat), (wrA c i vs).size = c.size := by
  intro vs
  induction vs with
  | nil => intro c i; rfl
  | cons v vs ih => intro c i; simp only [wrA]; rw [ih]; simp
theorem wrA_get : ∀ (vs : List Value) (c : Array Value) (i j : Nat), i + vs.length ≤ c.size → (wrA c i vs)[j]? = if i ≤ j ∧ j < i + vs.length then vs[j - i]? else c[j]? := by
  intro vs
  induction vs with
  | nil => intro c i j h; simp only [wrA]; rw [if_neg (by rintro ⟨h1, h2⟩; simp at h2; omega)]
  | cons v vs ih =>
    intro c i j h
    simp only [wrA]
    simp only [List.length_cons] at h
    rw [ih _ _ _ (by simp; omega)]
    by_cases h1 : i + 1 ≤ j ∧ j < i + 1 + vs.length
    · rw [if_pos h1, if_pos (by simp; omega)]
      obtain ⟨m, rfl⟩ : ∃ m, j = i + 1 + m := ⟨j - i - 1, by omega⟩
      rw [show i + 1 + m - (i + 1) = m from by omega, show i + 1 + m - i = m + 1 from by omega]; simp
    · rw [if_neg h1]
      by_cases h2 : j = i
      · subst h2
        rw [if_pos (by simp), Array.getElem?_setIfInBounds_self_of_lt (by omega)]; simp
      · rw [if_neg (by simp; omega), Array.getElem?_setIfInBounds_ne (by omega)]

theorem run_storeCells {r off : Nat} {e : TypeId} {rf : Nat × Nat} : ∀ (vs : List Value) (i : Nat) (w : World) (rc : Array Value), w.heap[r]? = some (.cells rc e rf) → off + i + vs.length ≤ rc.size →
    (∀ j, off + i ≤ j → j < off + i + vs.length → ¬(rf.1 ≤ j ∧ j < rf.2)) → (∀ v ∈ vs, Value.one v = true) →
    (storeCells ⟨r, off, none⟩ vs i).run P w = .ok () { w with heap := w.heap.setIfInBounds r (.cells (wrA rc (off + i) vs) e rf) } := by
  intro vs
  induction vs with
  | nil =>
    intro i w rc h _ _ _
    have : w.heap.setIfInBounds r (.cells rc e rf) = w.heap := by
      apply Array.ext
      · simp
      · intro j h1 h2
        rw [Array.getElem_setIfInBounds]
        split
        · rename_i hj; subst hj
          rw [Array.getElem?_eq_getElem h2] at h
          exact (Option.some.inj h).symm
        · rfl
    show Result.ok () w = _
    simp only [wrA]
    rw [this]
  | cons v vs ih =>
    intro i w rc h hl hf ho
    simp only [List.length_cons] at hl hf
    have hadd : (⟨r, off, none⟩ : Addr).add i = ⟨r, off + i, none⟩ := by unfold Addr.add; split <;> simp_all
    show (Sem.bind (Go.store ((⟨r, off, none⟩ : Addr).add i) v) _).run P w = _
    rw [run_bind, hadd]
    have hc : w.cell? ⟨r, off + i, none⟩ = some (rc[off + i]'(by omega)) := cell_of_block h (by simp)
    have hfr : w.frozen? ⟨r, off + i, none⟩ = false := by
      simp only [World.frozen?, h]
      have := hf (off + i) (by omega) (by omega)
      obtain ⟨lo, hi⟩ := rf
      simp only [Bool.and_eq_false_iff, decide_eq_false_iff_not]
      simp only [not_and] at this
      by_cases q : lo ≤ off + i
      · exact .inr (this q)
      · exact .inl q
    rw [run_store hc hfr (ho v (by simp))]
    have hs : w.setCell ⟨r, off + i, none⟩ v = { w with heap := w.heap.setIfInBounds r (.cells (rc.setIfInBounds (off + i) v) e rf) } := by
      simp only [World.setCell]
      congr 1
      apply Array.ext
      · simp
      · intro j h1 h2
        rw [Array.getElem_modify, Array.getElem_setIfInBounds]
        split
        · rename_i hj
          subst hj
          have hlt := heap_lt h
          have : w.heap[r] = .cells rc e rf := by
            rw [Array.getElem?_eq_getElem hlt] at h
            exact Option.some.inj h
          simp [this]
        · rfl
    simp only []
    rw [hs]
    have := ih (i + 1) { w with heap := w.heap.setIfInBounds r (.cells (rc.setIfInBounds (off + i) v) e rf) } (rc.setIfInBounds (off + i) v) (by simp [heap_lt h]) (by simp; omega) (fun j a b => hf j (by omega) (by omega)) (fun v hv => ho v (by simp [hv]))
    rw [show off + (i + 1) = off + i + 1 from by omega] at this
    rw [this]
    simp [wrA, Array.setIfInBounds_setIfInBounds]

theorem app_in {s s4 s5 : S} {w : World} {b bb : Nat} {L : Loc} {len off need cap' size sLen sCap : Nat} {em elem : TypeId} {fz : Nat × Nat} {old new nw : Array Value} {N : Nat}
    (hR : R P ν s w) (hL : ν b = some L) (hhd : s.at b 0 = some (.hd (.cells len em .opn fz))) (hold : ∀ (j : Nat) (v : Value), old[j]? = some v → s.at b (off + j + 1) = some (.val v) ∧ isTup v = false)
    (holds : old.size = sLen * size) (hA : VRels ν new nw) (c1 : len = off + (sCap - OPEN) * size) (c2 : em = elem) (c3 : fz.2 ≤ off + sLen * size) (c4 : sLen ≤ sCap - OPEN) (c5 : new.size = N * size) (c6 : new.toList.all Value.one = true)
    (hcell : P.cellsOf elem = size) (hcap : cap' = sCap - OPEN + L.slack) (hin : sLen + N ≤ cap') (hS4 : Same (s.put b 0 (.hd .dead)) s4) (hk : Dee.newCells (old ++ new).toList elem .opn (shiftFz fz off) s4 = some (bb, s5))
    (hF : Fresh ν s4.n s5.n) (hneed : need = sLen + N) :
    ∃ ν' w', (storeCells ((⟨L.blk, L.base + off, none⟩ : Addr).add (sLen * size)) nw.toList).run P w = .ok () w' ∧ R P ν' s5 w' ∧ Fr ν s w ν' s5 w' ∧ ν' bb = some ⟨L.blk, L.base + off, cap' - need⟩ := by
  subst hneed
  simp only [Dee.newCells, newB, Option.some.injEq, Prod.mk.injEq] at hk
  obtain ⟨rfl, rfl⟩ := hk
  obtain ⟨L', hL', rc, re, rf, g1, g2, g3, g4, g5, g6⟩ := hR.blk b _ hhd rfl
  rw [hL] at hL'
  obtain rfl := Option.some.inj hL'
  obtain ⟨hre, hfz⟩ := g4 (by simp)
  have hsz := g6 rfl
  rw [c2, hcell] at hsz
  have hn : ν s4.n = none := hF s4.n (Nat.le_refl _) (by simp)
  have hle : ν.le (ν.put s4.n ⟨L.blk, L.base + off, cap' - (sLen + N)⟩) := Nm.le_put hn
  have hnw : nw.size = new.size := hA.size
  have hmul4 : sLen * size ≤ (sCap - OPEN) * size := Nat.mul_le_mul_right _ c4
  have hmul1 : (sLen + N) * size = sLen * size + N * size := Nat.add_mul _ _ _
  have hmul2 : (cap' - (sLen + N)) * size + (sLen + N) * size = cap' * size := by rw [← Nat.add_mul, Nat.sub_add_cancel hin]
  have hmul3 : cap' * size = (sCap - OPEN) * size + L.slack * size := by rw [hcap, Nat.add_mul]
  have hfit : L.base + off + sLen * size + nw.toList.length ≤ rc.size := by
    rw [Array.length_toList, hnw, c5]; omega
  have hadd : (⟨L.blk, L.base + off, none⟩ : Addr).add (sLen * size) = ⟨L.blk, L.base + off + sLen * size, none⟩ := by unfold Addr.add; split <;> simp_all
  have hone : ∀ v ∈ nw.toList, Value.one v = true := by
    intro v hv
    obtain ⟨j, hj⟩ := List.mem_iff_getElem?.1 hv
    have hlt : j < new.size := by
      have := (List.getElem?_eq_some_iff.1 hj).1
      rw [Array.length_toList] at this
      omega
    obtain ⟨v', p, q⟩ := hA.get (Array.getElem?_eq_getElem hlt)
    rw [Array.getElem?_toList] at hj
    rw [p] at hj
    obtain rfl := Option.some.inj hj
    exact q.one (by rw [List.all_eq_true] at c6; exact c6 _ (by simp))
  have hrun := run_storeCells (P := P) (r := L.blk) (off := L.base + off + sLen * size) (e := re) (rf := rf) nw.toList 0 w rc g1 (by omega) (fun j h1 h2 h3 => by
    have := hfz j (by omega) (by omega) h3.1 h3.2
    omega) hone
  have hat : ∀ b' j, s4.at b' j = (s.put b 0 (.hd .dead)).at b' j := hS4.at_
  have hnb : b ≠ s4.n := fun e => by rw [e, hn] at hL; simp at hL
  have hrcs := wrA_size nw.toList rc (L.base + off + sLen * size + 0)
  have hheap : ∀ r, r ≠ L.blk → (w.heap.setIfInBounds L.blk (.cells (wrA rc (L.base + off + sLen * size + 0) nw.toList) re rf))[r]? = w.heap[r]? := fun r hr => Array.getElem?_setIfInBounds_ne (Ne.symm hr)
  have old' : ∀ b' m', b' ≠ s4.n → s4.at b' 0 = some (.hd m') → live m' = true → b' ≠ b ∧ s.at b' 0 = some (.hd m') := by
    intro b' m' _ h2 h3
    rw [hat, S.at_put] at h2
    by_cases h : b' = b
    · rw [if_pos ⟨h, rfl⟩] at h2
      obtain rfl := KV.hd.inj (Option.some.inj h2)
      simp [live] at h3
    · rw [if_neg (by simp [h])] at h2
      exact ⟨h, h2⟩
  refine ⟨ν.put s4.n ⟨L.blk, L.base + off, cap' - (sLen + N)⟩, _, by rw [hadd]; exact hrun, ⟨fun b' m' hb' hl => ?_, fun b1 b2 m1 m2 L1 L2 hb1 hb2 ho hl e1 e2 hne => ?_⟩, ?_, by simp [Nm.put]⟩
  · rw [S.at_new] at hb'
    by_cases h : b' = s4.n
    · subst h
      rw [if_pos rfl, blk_get_zero] at hb'
      obtain rfl := KV.hd.inj (Option.some.inj hb')
      have hol : (old ++ new).toList.length = sLen * size + N * size := by simp [holds, c5]
      refine ⟨⟨L.blk, L.base + off, cap' - (sLen + N)⟩, by simp only [Nm.put, if_true], wrA rc (L.base + off + sLen * size + 0) nw.toList, re, rf, by simp [heap_lt g1], ?_, fun i v hi hv ht => ?_, fun _ => ⟨hre.trans c2, fun i h1 h2 h3 h4 => ?_⟩, fun h => by simp at h, fun _ => ?_⟩
      · rw [hrcs, hol]; show L.base + off + _ ≤ _; omega
      · rw [S.at_new, if_pos rfl, blk_get_succ] at hv
        rw [wrA_get _ _ _ _ (by omega)]
        show ∃ v', (if L.base + off + sLen * size + 0 ≤ L.base + off + i ∧ L.base + off + i < L.base + off + sLen * size + 0 + nw.toList.length then nw.toList[L.base + off + i - (L.base + off + sLen * size + 0)]? else rc[L.base + off + i]?) = some v' ∧ _
        cases hx : (old ++ new).toList[i]? with
        | none => rw [hx] at hv; simp at hv
        | some u =>
          rw [hx] at hv
          simp only [Option.map_some, Option.some.injEq, KV.val.injEq] at hv
          subst hv
          rw [Array.toList_append] at hx
          by_cases hio : i < sLen * size
          · rw [if_neg (by omega)]
            rw [List.getElem?_append_left (by simpa [holds] using hio), Array.getElem?_toList] at hx
            obtain ⟨p1, p2⟩ := hold i u hx
            obtain ⟨v', q1, q2⟩ := g3 (off + i) u (by omega) p1 p2
            rw [← Nat.add_assoc] at q1
            exact ⟨v', q1, q2.mono hle⟩
          · rw [hol] at hi
            rw [if_pos (by rw [Array.length_toList, hnw, c5]; omega)]
            rw [List.getElem?_append_right (by simp [holds]; omega), Array.length_toList, holds, Array.getElem?_toList] at hx
            obtain ⟨v', q1, q2⟩ := hA.get hx
            refine ⟨v', ?_, q2.mono hle⟩
            rw [Array.getElem?_toList, show L.base + off + i - (L.base + off + sLen * size + 0) = i - sLen * size from by omega]
            exact q1
      · have h1' : L.base + off ≤ i := h1
        have := hfz i (by omega) (by rw [hrcs] at h2; exact h2) h3 h4
        show fz.1 - off ≤ i - (L.base + off) ∧ i - (L.base + off) < fz.2 - off
        omega
      · rw [hrcs, hol, hcell]
        show rc.size = L.base + off + _ + (cap' - (sLen + N)) * size
        omega
    · rw [if_neg h] at hb'
      obtain ⟨h1, h2⟩ := old' b' m' h hb' hl
      obtain ⟨L2, q1, q2⟩ := hR.blk b' m' h2 hl
      have hne2 : L.blk ≠ L2.blk := hR.apart b b' _ m' L L2 hhd h2 rfl hl hL q1 (Ne.symm h1)
      exact ⟨L2, hle _ _ q1, q2.ext hle (fun j => by rw [S.at_new, if_neg h, hat, S.at_put, if_neg (by simp [h1])]) (hheap _ (Ne.symm hne2))⟩
  · rw [S.at_new] at hb1 hb2
    by_cases h : b1 = s4.n
    · have h' : b2 ≠ s4.n := fun e => hne (h.trans e.symm)
      rw [if_neg h'] at hb2
      obtain ⟨p1, p2⟩ := old' b2 m2 h' hb2 hl
      obtain ⟨L3, q1, _⟩ := hR.blk b2 m2 p2 hl
      rw [hle _ _ q1] at e2
      obtain rfl := Option.some.inj e2
      rw [h] at e1
      simp only [Nm.put, if_true, Option.some.injEq] at e1
      subst e1
      exact hR.apart b b2 _ m2 L _ hhd p2 rfl hl hL q1 (Ne.symm p1)
    · rw [if_neg h] at hb1
      have ho' : live m1 = true := owns_live ho
      obtain ⟨p1, p2⟩ := old' b1 m1 h hb1 ho'
      obtain ⟨L3, q1, _⟩ := hR.blk b1 m1 p2 ho'
      rw [hle _ _ q1] at e1
      obtain rfl := Option.some.inj e1
      by_cases h' : b2 = s4.n
      · rw [h'] at e2
        simp only [Nm.put, if_true, Option.some.injEq] at e2
        subst e2
        exact (hR.apart b b1 _ m1 L _ hhd p2 rfl ho' hL q1 (Ne.symm p1)).symm
      · rw [if_neg h'] at hb2
        obtain ⟨p3, p4⟩ := old' b2 m2 h' hb2 hl
        obtain ⟨L4, q3, _⟩ := hR.blk b2 m2 p4 hl
        rw [hle _ _ q3] at e2
        obtain rfl := Option.some.inj e2
        exact hR.apart b1 b2 m1 m2 _ _ p2 p4 ho hl q1 q3 hne
  · have hn4 : s4.n = s.n := hS4.n
    refine ⟨by show s.n ≤ s4.n + 1; omega, rfl, rfl, rfl, by simp, fun r hr ho => ?_, fun r hr => .inl ?_, hle, fun x hx hr => ?_, fun b' n sz row q => .inl ?_⟩
    · exact hheap r (fun e => ho ⟨b, _, L, hhd, rfl, hL, e.symm⟩)
    · obtain ⟨b', m', L', h1, h2, h3, h4⟩ := hr
      rw [S.at_new] at h1
      by_cases h : b' = s4.n
      · rw [h] at h3
        simp only [Nm.put, if_true, Option.some.injEq] at h3
        subst h3
        exact ⟨b, _, L, hhd, rfl, hL, h4⟩
      · rw [if_neg h] at h1
        have hl' : live m' = true := owns_live h2
        obtain ⟨p1, p2⟩ := old' b' m' h h1 hl'
        simp only [Nm.put, if_neg h] at h3
        exact ⟨b', m', L', p2, h2, h3, h4⟩
    · simp only [Nm.put]
      rw [if_neg]
      · exact hx
      · rintro rfl
        simp only at hr
        omega
    · rw [S.at_new] at q
      by_cases h : b' = s4.n
      · rw [if_pos h, blk_get_zero] at q; simp at q
      · rw [if_neg h, hat, S.at_put] at q
        by_cases h2 : b' = b
        · rw [if_pos ⟨h2, rfl⟩] at q; simp at q
        · rw [if_neg (by simp [h2])] at q; exact q

theorem SimM.append (hz : ZeroOk P) (hzs : ZSize P) {args args' : Array Value} (ha : VRels ν args args') : SimM P ν VRel (dAppend P ts args) (Builtin.append_ ts T args') := by
  intro ν1 e s w v s' hR hrun hF
  have ha1 := VRels.mono e ha
  unfold dAppend at hrun
  cases h0 : ts[0]? with
  | none => rw [h0] at hrun; exact (fail_some hrun).elim
  | some sType =>
  cases h1 : ts[1]? with
  | none => rw [h0, h1] at hrun; exact (fail_some hrun).elim
  | some xType =>
  cases g0 : args[0]? with
  | none => rw [h0, h1, g0] at hrun; exact (fail_some hrun).elim
  | some so =>
  cases g1 : args[1]? with
  | none => rw [h0, h1, g0, g1] at hrun; cases so <;> exact (fail_some hrun).elim
  | some x =>
  rw [h0, h1, g0, g1] at hrun
  cases so <;> first | exact (fail_some hrun).elim | skip
  rename_i base sLen sCap
  simp only [] at hrun
  cases hs : P.underlying sType with
  | none => rw [hs] at hrun; exact (fail_some hrun).elim
  | some sd =>
  rw [hs] at hrun
  cases sd <;> first | exact (fail_some hrun).elim | skip
  rename_i elem
  cases hx : P.underlying xType with
  | none => rw [hx] at hrun; exact (fail_some hrun).elim
  | some xd =>
  rw [hx] at hrun
  simp only [] at hrun
  cases hi : P.info? elem with
  | none => rw [hi] at hrun; exact (fail_some hrun).elim
  | some info =>
  rw [hi] at hrun
  simp only [] at hrun
  split at hrun
  case isTrue => exact (fail_some hrun).elim
  rename_i hn
  split at hrun
  case isTrue => exact (fail_some hrun).elim
  rename_i hsz0
  cases hzv : info.zero with
  | none => rw [hzv] at hrun; exact (fail_some hrun).elim
  | some z =>
  rw [hzv] at hrun
  simp only [] at hrun
  split at hrun
  case isFalse => exact (fail_some hrun).elim
  rename_i htag
  split at hrun
  case isFalse => exact (fail_some hrun).elim
  rename_i hroom
  split at hrun
  case isFalse => exact (fail_some hrun).elim
  rename_i hneed
  have hn' : isInt xd = false := by simpa using hn
  have hzsz := hzs elem info z hi hzv
  have hcell : P.cellsOf elem = info.size := by simp [Program.cellsOf, hi]
  obtain ⟨so', q0, r0⟩ := ha1.get g0
  obtain ⟨x', q1, r1⟩ := ha1.get g1
  obtain ⟨base', cap', rfl, hb⟩ := slice_rel r0
  have htag' : tag x' = 6 ∨ tag x' = 4 := by rw [r1.tag]; exact htag
  have hld := lenD_rel r1
  cases base with
  | none =>
    obtain ⟨rfl, rfl, hop⟩ := hb
    simp only [dApp] at hrun
    split at hrun
    case isFalse => exact (fail_some hrun).elim
    rename_i h00
    obtain ⟨rfl, rfl⟩ := h00
    obtain ⟨new, s1, k1, k2⟩ := M.bind_some hrun
    split at k2
    · rename_i hl0
      obtain ⟨rfl, rfl⟩ := pure_some k2
      obtain ⟨ν2, nw, w2, r2, hR2, hF2, hA2⟩ := SimM.of (Sim.firstCells info.size (lenD x) r1) ν1 (Nm.le_refl _) s w new s' hR k1 hF
      refine ⟨ν2, .slice none 0 0, w2, ?_, hR2, hF2, by simp [VRel, OPEN]⟩
      rw [append_in h0 h1 hs hx hi hn' q0 q1 htag' (by omega)]
      unfold tailIn
      show (Sem.bind (Builtin.firstCells info.size (lenD x') x') _).run P w = _
      rw [run_bind, hld, r2]
      simp only [hl0]
      rfl
    · rename_i hl0
      obtain ⟨bb, s3, k3, k4⟩ := M.bind_some k2
      obtain ⟨rfl, rfl⟩ := pure_some k4
      obtain ⟨newCap, hcap, hrun2⟩ := append_new h0 h1 hs hx hi hn' q0 q1 htag' (by omega) hzv (by rw [hld]; exact hroom) (by rw [hld]; exact hneed) w
      have n1 := Up.embV _ _ _ _ k1
      have n2 := newCells_up _ _ _ _ _ _ _ k3
      obtain ⟨ν3, v', w3, r3, hR3, hF3, hA3⟩ := app_new (s1 := s) (x' := x') (size := info.size) (n := lenD x) (newCap := newCap) (need := lenD x) (z := z) (old := #[]) (olds := Pure.pure #[]) hF r1 n1 n2
        (fun _ => ⟨ν1, #[], _, rfl, hR.drew, Fr.refl _ _ _, VRels.nil⟩) k1 (by omega) hzsz hcell s1 (fun _ _ h => ⟨h, Fr.refl _ _ _⟩) (by simpa using k3)
      refine ⟨ν3, v', w3, ?_, hR3, (Fr.drew s w).trans hF3, by simpa using hA3⟩
      rw [hrun2]
      unfold tailNew
      rw [hld]
      simpa [Builtin.firstCells] using r3
  | some a =>
    obtain ⟨b, L, ka, kL, rfl, hcap'⟩ := hb
    have hsp : a.spot = none := ka.1
    simp only [dApp, hsp] at hrun
    rw [if_neg (by simp)] at hrun
    by_cases hle : sLen + lenD x ≤ (if sCap < OPEN then sCap else sCap - OPEN)
    · rw [if_pos hle] at hrun
      obtain ⟨new, s1, k1, k2⟩ := M.bind_some hrun
      obtain ⟨u, s2, k3, k4⟩ := M.bind_some k2
      obtain ⟨rfl, rfl⟩ := pure_some k4
      have n1 := Up.embV _ _ _ _ k1
      have n2 := Up.embV _ _ _ _ k3
      obtain ⟨ν2, nw, w2, r2, hR2, hF2, hA2⟩ := SimM.of (Sim.firstCells info.size (lenD x) r1) ν1 (Nm.le_refl _) s w new s1 hR k1 (hF.sub (Nat.le_refl _) n2)
      obtain ⟨ν3, u', w3, r3, hR3, hF3, _⟩ := SimM.of (Sim.storeCells ((ka.mono hF2.ext).add (sLen * info.size)) new.toList nw.toList 0 hA2.toList) ν2 (Nm.le_refl _) s1 w2 u s' hR2 k3 (hF.later hF2 n2)
      refine ⟨ν3, .slice (some b) (sLen + lenD x) cap', w3, ?_, hR3, hF2.trans hF3, ?_⟩
      · rw [append_in h0 h1 hs hx hi hn' q0 q1 htag' (by rw [hld, hcap']; split at hle <;> split <;> omega)]
        unfold tailIn
        show (Sem.bind (Builtin.firstCells info.size (lenD x') x') _).run P w = _
        rw [run_bind, hld, r2]
        show (Sem.bind (storeCells (b.add (sLen * info.size)) nw.toList) _).run P w2 = _
        rw [run_bind, r3]
        rfl
      · exact ⟨b, L, ka.mono (Nm.le_trans hF2.ext hF3.ext), (Nm.le_trans hF2.ext hF3.ext) _ _ kL, by rw [hcap']⟩
    · rw [if_neg hle] at hrun
      by_cases hex : sCap < OPEN
      · rw [if_pos hex] at hrun
        rw [if_pos hex] at hle hcap'
        subst hcap'
        obtain ⟨old, s1, k1, k2⟩ := M.bind_some hrun
        obtain ⟨new, s2, k3, k4⟩ := M.bind_some k2
        obtain ⟨bb, s3, k5, k6⟩ := M.bind_some k4
        obtain ⟨rfl, rfl⟩ := pure_some k6
        have n1 := Up.embV _ _ _ _ k1
        have n2 := Up.embV _ _ _ _ k3
        have n3 := newCells_up _ _ _ _ _ _ _ k5
        obtain ⟨newCap, hcap, hrun2⟩ := append_new h0 h1 hs hx hi hn' q0 q1 htag' (by rw [hld]; exact hle) hzv (by rw [hld]; exact hroom) (by rw [hld]; exact hneed) w
        obtain ⟨ν3, v', w3, r3, hR3, hF3, hA3⟩ := app_new (s := s) (w := { w with drawn := w.drawn + 1 }) (x' := x') (size := info.size) (n := lenD x) (newCap := newCap) (need := sLen + lenD x) (z := z) (olds := loadCells b (sLen * info.size)) hF r1 n2 n3
          (fun hf => SimM.of (Sim.loadCells ka _) ν1 (Nm.le_refl _) s _ old s1 hR.drew k1 hf) k3 (by omega) hzsz hcell s2 (fun _ _ h => ⟨h, Fr.refl _ _ _⟩) k5
        refine ⟨ν3, v', w3, ?_, hR3, (Fr.drew s w).trans hF3, hA3⟩
        rw [hrun2]
        unfold tailNew
        rw [hld]
        exact r3
      · rw [if_neg hex] at hrun
        rw [if_neg hex] at hle hcap'
        obtain ⟨old, s1, k1, k2⟩ := M.bind_some hrun
        obtain ⟨new, s2, k3, k4⟩ := M.bind_some k2
        obtain ⟨hd, s3, k5, k6⟩ := M.bind_some k4
        obtain ⟨hhd, hS3⟩ := rdK_some k5
        split at k6
        case h_2 => exact (fail_some k6).elim
        rename_i len em fz
        split at k6
        case isFalse => exact (fail_some k6).elim
        rename_i hch
        obtain ⟨c1, c2, c3, c4, c5, c6⟩ := hch
        obtain ⟨u, s4, k7, k8⟩ := M.bind_some k6
        obtain ⟨bb, s5, k9, k10⟩ := M.bind_some k8
        obtain ⟨rfl, rfl⟩ := pure_some k10
        have hS4 := wrK_same hS3 k7
        have n1 := Up.embV _ _ _ _ k1
        have n2 := Up.embV _ _ _ _ k3
        have n4 : s2.n ≤ s4.n := by rw [hS4.n]; exact Nat.le_refl _
        have n5 := newCells_up _ _ _ _ _ _ _ k9
        have hkill : ∀ ν w, R P ν s2 w → R P ν s4 w ∧ Fr ν s2 w ν s4 w := fun ν w h => ⟨(h.kill a.block).same hS4, (Fr.kill s2 w a.block).trans (Fr.same w hS4)⟩
        by_cases hin : sLen + lenD x ≤ cap'
        · obtain ⟨ν2, nw, w2, r2, hR2, hF2, hA2⟩ := SimM.of (Sim.firstCells info.size (lenD x) r1) ν1 (Nm.le_refl _) s1 w new s2 (hR.same (loadCells_same k1)) k3 (by have := (loadCells_same k1).n; intro q h5 h6; exact hF q (by omega) (by omega))
          have hFs := (Fr.same w (loadCells_same k1)).trans hF2
          obtain ⟨ν3, w3, r3, hR3, hF3, hv⟩ := app_in (new := new) (nw := nw) (old := old) (need := sLen + lenD x) (cap' := cap') (size := info.size) (sLen := sLen) hR2 (hF2.ext _ _ kL) hhd
            (fun j v hj => by
              have h5 := (loadCells_some hsp k1).2.2 j v hj
              rw [(firstCells_same k3).at_, (loadCells_same k1).at_]; exact h5)
            (loadCells_some hsp k1).2.1 hA2 c1 c2 c3 c4 c5 c6 hcell hcap' hin hS4 k9 (by have := (firstCells_same k3).n; have := hS4.n; intro q h5 h6; exact (hF.later hFs (by omega)) q (by show s2.n ≤ q; change s4.n = s2.n at this; omega) (by omega)) rfl
          refine ⟨ν3, .slice (some b) (sLen + lenD x) cap', w3, ?_, hR3, hFs.trans hF3, ?_⟩
          · rw [append_in h0 h1 hs hx hi hn' q0 q1 htag' (by rw [hld]; exact hin)]
            unfold tailIn
            show (Sem.bind (Builtin.firstCells info.size (lenD x') x') _).run P w = _
            rw [run_bind, hld, r2]
            show (Sem.bind (storeCells (b.add (sLen * info.size)) nw.toList) _).run P w2 = _
            have hbb : b = ⟨L.blk, L.base + a.off, none⟩ := by obtain ⟨_, L2, p2, e2⟩ := ka; rw [kL] at p2; obtain rfl := Option.some.inj p2; exact e2
            rw [run_bind, hbb, r3]
            rfl
          · have hbb : b = ⟨L.blk, L.base + a.off, none⟩ := by obtain ⟨_, L2, p2, e2⟩ := ka; rw [kL] at p2; obtain rfl := Option.some.inj p2; exact e2
            refine ⟨b, _, ⟨rfl, _, hv, by rw [hbb]; rfl⟩, hv, ?_⟩
            rw [if_neg (by omega)]
            show Value.slice (some b) (sLen + lenD x) cap' = Value.slice (some b) (sLen + lenD x) (OPEN + (sLen + lenD x) - OPEN + (cap' - (sLen + lenD x)))
            rw [show OPEN + (sLen + lenD x) - OPEN + (cap' - (sLen + lenD x)) = cap' from by omega]
        · obtain ⟨newCap, hcap, hrun2⟩ := append_new h0 h1 hs hx hi hn' q0 q1 htag' (by rw [hld]; exact hin) hzv (by rw [hld]; exact hroom) (by rw [hld]; exact hneed) w
          obtain ⟨ν3, v', w3, r3, hR3, hF3, hA3⟩ := app_new (s := s) (w := { w with drawn := w.drawn + 1 }) (x' := x') (size := info.size) (n := lenD x) (newCap := newCap) (need := sLen + lenD x) (z := z) (olds := loadCells b (sLen * info.size)) hF r1 n2 (by omega)
            (fun hf => SimM.of (Sim.loadCells ka _) ν1 (Nm.le_refl _) s _ old s1 hR.drew k1 hf) k3 (by omega) hzsz hcell s4 hkill k9
          refine ⟨ν3, v', w3, ?_, hR3, (Fr.drew s w).trans hF3, hA3⟩
          rw [hrun2]
          unfold tailNew
          rw [hld]
          exact r3
end append
end
end Go.Dee
