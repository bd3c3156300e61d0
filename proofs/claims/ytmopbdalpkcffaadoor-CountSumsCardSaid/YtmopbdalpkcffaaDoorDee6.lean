/- Dee, part 6: maps, iteration, calls; every operation. -/
import Derived.Test.YtmopbdalpkcffaaDoorDee5
namespace Go.Dee
open Go
section
variable {P : Program} {ν : Nm}

/-! Maps. -/
theorem Sim.checkKey (empty : Bool) (n : Nat) {t : TypeId} {k : Value} (hk : plainKey k = true) : Sim P ν Any (Instr.checkKey empty (n + 1) t k) (Instr.checkKey empty (n + 1) t k) := by
  unfold Instr.checkKey
  refine Sim.underlying fun d hd => ?_
  have ret : Sim P ν (Any : Nm → Unit → Unit → Prop) (Pure.pure ()) (Pure.pure ()) := Sim.pure fun _ _ => trivial
  cases k <;> simp [plainKey] at hk <;> cases d <;> first | exact Sim.fail rfl | exact ret

theorem plain_rel {k k' : Value} (h : VRel ν k k') (hk : plainKey k = true) : k' = k := by
  cases k <;> simp [plainKey] at hk <;> simp only [VRel] at h <;> exact h

theorem sameNow_rel {d : TypeDesc} {k e e' : Value} (hk : plainKey k = true) (h : VRel ν e e') : Instr.sameNow d k e' = Instr.sameNow d k e := by
  have ht := h.tag
  cases k <;> simp [plainKey] at hk
  all_goals
    cases e with
    | int a b => rw [VRel.int] at h; subst h; rfl
    | string a => rw [VRel.string] at h; subst h; rfl
    | bool a => rw [VRel.bool] at h; subst h; rfl
    | _ => cases e' <;> simp [tag] at ht <;> cases d <;> rfl

def FRel (ν : Nm) (x y : Option (Nat × Value)) : Prop := match x with | none => y = none | some p => ∃ q, y = some q ∧ PRel ν p q

theorem findNow_rel {d : TypeDesc} {k : Value} (hk : plainKey k = true) : ∀ {x y : List MapEntry} (_ : LRel (MERel ν) x y) (i : Nat),
    match Instr.findNow d k x i with
    | none => Instr.findNow d k y i = none
    | some r => ∃ r', Instr.findNow d k y i = some r' ∧ FRel ν r r' := by
  intro x
  induction x with
  | nil => intro y h i; simp only [LRel] at h; subst h; exact ⟨none, rfl, rfl⟩
  | cons a x ih =>
    intro y h i
    simp only [LRel] at h
    obtain ⟨b, y', rfl, ⟨h1, h2, h3⟩, h4⟩ := h
    unfold Instr.findNow
    rw [sameNow_rel hk h1]
    cases Instr.sameNow d k a.key with
    | none => rfl
    | some c =>
      cases c with
      | true => exact ⟨_, rfl, _, rfl, rfl, h2⟩
      | false => exact ih h4 (i + 1)

theorem Sim.findAsking (hg : GOk P ν) {t : TypeId} {k k' : Value} (hk : VRel ν k k') : ∀ {x y : List MapEntry} {ν1 : Nm} (_ : ν.le ν1) (_ : LRel (MERel ν1) x y) (i : Nat),
    Sim P ν1 FRel (Instr.findAsking t k x i) (Instr.findAsking t k' y i) := by
  intro x
  induction x with
  | nil => intro y ν1 e h i; simp only [LRel] at h; subst h; exact Sim.pure fun _ _ => rfl
  | cons a x ih =>
    intro y ν1 e h i
    simp only [LRel] at h
    obtain ⟨b, y', rfl, ⟨h1, h2, h3⟩, h4⟩ := h
    unfold Instr.findAsking
    refine Sim.bind' (Sim.equalIn _ (hg.mono e) (hk.mono e) h1) fun ν2 e2 r r' kr => ?_
    subst kr
    refine Sim.ite (fun _ => Sim.pure fun _ e3 => ⟨_, rfl, rfl, (h2.mono e2).mono e3⟩) fun _ => ?_
    exact ih (Nm.le_trans e e2) (h4.mono fun _ _ => MERel.mono e2) (i + 1)

theorem Sim.findKey (hg : GOk P ν) {t : TypeId} {k : Value} (hk : plainKey k = true) {x y : List MapEntry} (h : LRel (MERel ν) x y) :
    Sim P ν FRel (Instr.findKey t k x) (Instr.findKey t k y) := by
  unfold Instr.findKey
  refine Sim.underlying fun d _ => ?_
  have := findNow_rel (ν := ν) (d := d) hk h 0
  revert this
  cases Instr.findNow d k x 0 with
  | none =>
    intro e
    simp only [] at e
    rw [e]
    exact Sim.findAsking hg (by cases k <;> simp [plainKey] at hk <;> simp [VRel]) (Nm.le_refl _) h 0
  | some r =>
    rintro ⟨r', e, k1⟩
    rw [e]
    refine Sim.pure fun ν1 e1 => ?_
    cases r with
    | none => exact k1
    | some p => obtain ⟨q, a, b, c⟩ := k1; exact ⟨q, a, b, c.mono e1⟩

theorem LRel.isEmpty {α β : Type} {A : α → β → Prop} {x : List α} {y : List β} (h : LRel A x y) : y.isEmpty = x.isEmpty := by
  cases x with
  | nil => simp only [LRel] at h; subst h; rfl
  | cons a x => simp only [LRel] at h; obtain ⟨b, y', rfl, _⟩ := h; rfl
theorem LRel.length {α β : Type} {A : α → β → Prop} : ∀ {x : List α} {y : List β}, LRel A x y → y.length = x.length
  | [], _, h => by simp only [LRel] at h; subst h; rfl
  | a :: x, _, h => by simp only [LRel] at h; obtain ⟨b, y', rfl, _, k⟩ := h; simp [LRel.length k]
theorem LRel.get {α β : Type} {A : α → β → Prop} : ∀ {x : List α} {y : List β}, LRel A x y → ∀ (i : Nat) (a : α), x[i]? = some a → ∃ b, y[i]? = some b ∧ A a b
  | [], _, h, i, a, e => by simp at e
  | c :: x, _, h, i, a, e => by
    simp only [LRel] at h
    obtain ⟨b, y', rfl, p, k⟩ := h
    cases i with
    | zero => simp at e; subst e; exact ⟨b, rfl, p⟩
    | succ i => simp at e ⊢; exact LRel.get k i a e
theorem LRel.of_get {α β : Type} {A : α → β → Prop} : ∀ {x : List α} {y : List β}, x.length = y.length → (∀ (i : Nat) (a : α) (b : β), x[i]? = some a → y[i]? = some b → A a b) → LRel A x y
  | [], y, hl, _ => by cases y <;> simp_all [LRel]
  | a :: x, y, hl, h => by
    cases y with
    | nil => simp at hl
    | cons b y => exact ⟨b, y, rfl, h 0 a b rfl rfl, LRel.of_get (by simpa using hl) fun i a b p q => h (i + 1) a b (by simpa using p) (by simpa using q)⟩

theorem Sim.lookup (hg : GOk P ν) (hz : ZeroOk P) {t : TypeId} {x x' k k' : Value} {c : Bool} (hx : VRel ν x x') (hk : VRel ν k k') (hp : plainKey k = true) :
    Sim P ν VRel (Instr.lookup t x k c) (Instr.lookup t x' k' c) := by
  obtain rfl := plain_rel hk hp
  unfold Instr.lookup
  refine Sim.underlying fun d _ => ?_
  cases d <;> first | exact Sim.fail rfl | skip
  rename_i key elem _
  have rest : ∀ (ν1 : Nm) (es es' : Array MapEntry), ν.le ν1 → LRel (MERel ν1) es.toList es'.toList → Sim P ν1 VRel
      (do
        Instr.checkKey es.isEmpty 10000 key k'
        let (v, ok) ← match ← Instr.findKey key k' es.toList with
          | some (_, v) => Pure.pure (v, true)
          | none => Pure.pure (← Go.zeroValue elem, false)
        Pure.pure (if c then Value.tuple #[v, .bool ok] else v))
      (do
        Instr.checkKey es'.isEmpty 10000 key k'
        let (v, ok) ← match ← Instr.findKey key k' es'.toList with
          | some (_, v) => Pure.pure (v, true)
          | none => Pure.pure (← Go.zeroValue elem, false)
        Pure.pure (if c then Value.tuple #[v, .bool ok] else v)) := by
    intro ν1 es es' e h
    have hemp : es'.isEmpty = es.isEmpty := by have := h.isEmpty; simpa using this
    rw [hemp]
    refine Sim.bind' (Sim.checkKey _ 9999 hp) fun ν2 e2 _ _ _ => ?_
    refine Sim.bind' (Sim.findKey (hg.mono (Nm.le_trans e e2)) hp (h.mono fun _ _ => MERel.mono e2)) fun ν3 e3 r r' kr => ?_
    have fin : ∀ (ν4 : Nm) (v v' : Value) (ok : Bool), VRel ν4 v v' → Sim P ν4 VRel (Pure.pure (if c then Value.tuple #[v, .bool ok] else v)) (Pure.pure (if c then Value.tuple #[v', .bool ok] else v')) := by
      intro ν4 v v' ok hv
      refine Sim.retV ?_
      split
      · exact ⟨_, ⟨_, _, rfl, hv, _, _, rfl, by simp [VRel], rfl⟩, rfl⟩
      · exact hv
    cases r with
    | none =>
      simp only [FRel] at kr; subst kr
      exact Sim.zeroValue hz fun i v _ _ hv => fin _ _ _ _ hv
    | some p =>
      obtain ⟨q, rfl, _, hv⟩ := kr
      exact fin _ _ _ _ hv
  cases x <;> first | exact Sim.fail rfl | skip
  rename_i r
  cases r with
  | none =>
    simp only [VRel] at hx; subst hx
    exact rest ν #[] #[] (Nm.le_refl _) rfl
  | some r =>
    simp only [VRel] at hx
    obtain ⟨L, hL, rfl⟩ := hx
    refine Sim.bind' (Sim.getObj hL rfl) fun ν1 e o o' ko => ?_
    cases o <;> first | exact Sim.fail rfl | skip
    simp only [ORel] at ko
    obtain ⟨es', kl, rfl⟩ := ko
    exact rest ν1 _ _ e (by simpa using kl)

theorem Sim.mapUpdate (hg : GOk P ν) {t : TypeId} {x x' k k' v v' : Value} (hx : VRel ν x x') (hk : VRel ν k k') (hp : plainKey k = true) (hv : VRel ν v v') :
    Sim P ν Any (Instr.mapUpdate t x k v) (Instr.mapUpdate t x' k' v') := by
  obtain rfl := plain_rel hk hp
  unfold Instr.mapUpdate
  refine Sim.underlying fun d _ => ?_
  cases d <;> first | exact Sim.fail rfl | skip
  rename_i key elem _
  cases x <;> first | exact Sim.fail rfl | skip
  rename_i r
  cases r with
  | none => simp only [VRel] at hx; subst hx; exact Sim.runtimePanic hg _
  | some r =>
    simp only [VRel] at hx
    obtain ⟨L, hL, rfl⟩ := hx
    refine Sim.bind' (Sim.getObj hL rfl) fun ν1 e o o' ko => ?_
    cases o <;> first | exact Sim.fail rfl | skip
    rename_i es clock
    simp only [ORel] at ko
    obtain ⟨es', kl, rfl⟩ := ko
    refine Sim.bind' (Sim.checkKey _ 9999 hp) fun ν2 e2 _ _ _ => ?_
    have kl2 : LRel (MERel ν2) es.toList es' := kl.mono fun _ _ => MERel.mono e2
    have e02 := Nm.le_trans e e2
    refine Sim.bind' (Sim.findKey (hg.mono e02) hp (by simpa using kl2)) fun ν3 e3 r r' kr => ?_
    have kl3 : LRel (MERel ν3) es.toList es' := kl2.mono fun _ _ => MERel.mono e3
    have e03 := Nm.le_trans e02 e3
    have hkk : VRel ν3 k' k' := hk.mono e03
    have hvv := hv.mono e03
    cases r with
    | none =>
      simp only [FRel] at kr; subst kr
      refine Sim.setObj (e03 _ _ hL) rfl ⟨es' ++ [{ key := k', val := v', born := clock }], ?_, by simp⟩
      refine LRel.of_get (by simp [kl3.length]) fun i a b p q => ?_
      simp only [Array.toList_push] at p
      rw [List.getElem?_append] at p q
      rw [kl3.length] at q
      split at p
      · rename_i hi
        rw [if_pos hi] at q
        obtain ⟨b', c1, c2⟩ := kl3.get i a p
        rw [c1] at q; obtain rfl := Option.some.inj q; exact c2
      · rename_i hi
        rw [if_neg hi] at q
        cases hj : i - es.toList.length with
        | zero => rw [hj] at p q; simp at p q; subst p; subst q; exact ⟨hkk, hvv, rfl⟩
        | succ j => rw [hj] at p; simp at p
    | some p =>
      obtain ⟨q, rfl, hi, _⟩ := kr
      obtain ⟨i, pv⟩ := p
      obtain ⟨i', qv⟩ := q
      simp only at hi
      subst hi
      -- the key that stays
      refine Sim.bind' (A := fun _ a b => a = k' ∧ b = k') ?_ fun ν4 e4 a b kab => ?_
      · unfold Instr.keyThatStays
        have hold : Instr.sameBits 10000 ((Option.map (fun x => x.key) es'.toArray[i']?).getD k') k' = Instr.sameBits 10000 ((Option.map (fun x => x.key) es[i']?).getD k') k' := by
          simp only [List.getElem?_toArray]
          cases hx : es[i']? with
          | none =>
            have : es'[i']? = none := by
              have h5 : es'.length = es.size := by simpa using kl3.length
              simp at hx ⊢; omega
            rw [this]
          | some m =>
            obtain ⟨m', c1, c2⟩ := kl3.get i' m (by simpa using hx)
            rw [c1]
            simp only [Option.map_some, Option.getD_some]
            have h1 := c2.1
            have ht := h1.tag
            cases k' <;> simp [plainKey] at hp
            all_goals
              generalize m.key = mk at *
              generalize m'.key = mk' at *
              cases mk with
              | int a b => rw [VRel.int] at h1; subst h1; rfl
              | string a => rw [VRel.string] at h1; subst h1; rfl
              | bool a => rw [VRel.bool] at h1; subst h1; rfl
              | _ => cases mk' <;> simp [tag] at ht <;> rfl
        rw [hold]
        refine Sim.ite (fun _ => Sim.pure fun _ _ => ⟨rfl, rfl⟩) fun _ => Sim.fail rfl
      · obtain ⟨rfl, rfl⟩ := kab
        have kl4 : LRel (MERel ν4) es.toList es' := kl3.mono fun _ _ => MERel.mono e4
        have e04 := Nm.le_trans e03 e4
        refine Sim.setObj (e04 _ _ hL) rfl ⟨(es'.toArray.modify i' fun e => { key := b, val := v', born := e.born }).toList, ?_, by simp⟩
        refine LRel.of_get (by simp [kl4.length]) fun j m m' p q => ?_
        rw [Array.getElem?_toList, Array.getElem?_modify] at p q
        by_cases hij : i' = j
        · simp only [hij, if_true] at p q
          cases hm : es[j]? with
          | none => rw [hm] at p; simp at p
          | some m0 =>
            obtain ⟨m1, c1, c2⟩ := kl4.get j m0 (by simpa using hm)
            rw [hm] at p
            simp only [List.getElem?_toArray, c1] at q
            simp at p q
            subst p; subst q
            exact ⟨hkk.mono e4, hvv.mono e4, c2.2.2⟩
        · simp only [hij, if_false] at p q
          obtain ⟨b', c1, c2⟩ := kl4.get j m (by simpa using p)
          simp only [List.getElem?_toArray, c1] at q
          obtain rfl := Option.some.inj q
          exact c2

theorem LRel.eraseIdx {α β : Type} {A : α → β → Prop} : ∀ {x : List α} {y : List β}, LRel A x y → ∀ i, LRel A (x.eraseIdx i) (y.eraseIdx i)
  | [], _, h, i => by simp only [LRel] at h; subst h; simp [LRel]
  | a :: x, _, h, i => by
    simp only [LRel] at h
    obtain ⟨b, y', rfl, p, k⟩ := h
    cases i with
    | zero => exact k
    | succ i => exact ⟨b, _, rfl, p, LRel.eraseIdx k i⟩

theorem erase_toList {α : Type} (es : Array α) (i : Nat) : (es.eraseIdxIfInBounds i).toList = es.toList.eraseIdx i := by
  rw [Array.eraseIdxIfInBounds_eq]
  split
  · simp
  · rename_i h
    rw [List.eraseIdx_of_length_le]
    simpa using h

theorem Sim.delete (hg : GOk P ν) {ts : Array TypeId} {t : TypeId} {a a' : Array Value} (ha : VRels ν a a') (hp : ∀ k, a[1]? = some k → plainKey k = true) :
    Sim P ν VRel (Builtin.delete_ ts t a) (Builtin.delete_ ts t a') := by
  unfold Builtin.delete_
  cases ts[0]? with
  | none => exact Sim.fail rfl
  | some mt =>
    cases hm : a[0]? with
    | none => exact Sim.fail rfl
    | some m =>
      cases hk : a[1]? with
      | none => exact Sim.fail rfl
      | some k =>
        obtain ⟨m', hm', rm⟩ := ha.get hm
        obtain ⟨k', hk', rk⟩ := ha.get hk
        rw [hm', hk']
        have hpk := hp k hk
        obtain rfl := plain_rel rk hpk
        simp only []
        refine Sim.underlying fun d _ => ?_
        cases d <;> first | exact Sim.fail rfl | skip
        have fin : ∀ ν1, Sim P ν1 VRel (Pure.pure (Value.tuple #[])) (Pure.pure (Value.tuple #[])) := fun ν1 => Sim.retV (by simp [VRel, VRels, VRell])
        cases m <;> first | exact Sim.fail rfl | skip
        rename_i r
        cases r with
        | none =>
          simp only [VRel] at rm; subst rm
          exact Sim.bind' (Sim.checkKey _ 9999 hpk) fun ν2 e2 _ _ _ => fin _
        | some r =>
          simp only [VRel] at rm
          obtain ⟨L, hL, rfl⟩ := rm
          refine Sim.bind' (Sim.getObj hL rfl) fun ν1 e o o' ko => ?_
          cases o <;> first | exact Sim.fail rfl | skip
          rename_i es clock
          simp only [ORel] at ko
          obtain ⟨es', kl, rfl⟩ := ko
          have hemp : es'.toArray.isEmpty = es.isEmpty := by have := kl.isEmpty; simpa using this
          simp only []
          rw [hemp]
          refine Sim.bind' (Sim.checkKey _ 9999 hpk) fun ν2 e2 _ _ _ => ?_
          have kl2 : LRel (MERel ν2) es.toList es' := kl.mono fun _ _ => MERel.mono e2
          have e02 := Nm.le_trans e e2
          refine Sim.bind' (Sim.findKey (hg.mono e02) hpk (by simpa using kl2)) fun ν3 e3 r r' kr => ?_
          have kl3 : LRel (MERel ν3) es.toList es' := kl2.mono fun _ _ => MERel.mono e3
          have e03 := Nm.le_trans e02 e3
          cases r with
          | none =>
            simp only [FRel] at kr; subst kr
            exact Sim.bind' (Sim.setObj (e03 _ _ hL) rfl ⟨es', kl3, rfl⟩) fun ν4 e4 _ _ _ => fin _
          | some p =>
            obtain ⟨q, rfl, hi, _⟩ := kr
            obtain ⟨i, pv⟩ := p
            obtain ⟨i', qv⟩ := q
            simp only at hi
            subst hi
            refine Sim.bind' (Sim.setObj (e03 _ _ hL) rfl ⟨es'.eraseIdx i', ?_, ?_⟩) fun ν4 e4 _ _ _ => fin _
            · rw [erase_toList]; exact kl3.eraseIdx i'
            · congr 1
              apply Array.ext'
              rw [erase_toList]

theorem Sim.typeAssert (hg : GOk P ν) (hz : ZeroOk P) {x x' : Value} {t u : TypeId} {c : Bool} (hx : VRel ν x x') : Sim P ν VRel (Instr.typeAssert x t u c) (Instr.typeAssert x' t u c) := by
  unfold Instr.typeAssert
  have holds : ∀ (ν1 : Nm) (v v' : Value), VRel ν1 v v' → Sim P ν1 VRel (Pure.pure (if c then Value.tuple #[v, .bool true] else v)) (Pure.pure (if c then Value.tuple #[v', .bool true] else v')) := by
    intro ν1 v v' hv
    refine Sim.retV ?_
    split
    · exact ⟨_, ⟨_, _, rfl, hv, _, _, rfl, by simp [VRel], rfl⟩, rfl⟩
    · exact hv
  have fails : ∀ (s d : Option TypeId) (m : String), Sim P ν VRel
      (if c then do Pure.pure (Value.tuple #[← Go.zeroValue u, .bool false]) else Go.runtimePanic (.typeAssertion s d u m))
      (if c then do Pure.pure (Value.tuple #[← Go.zeroValue u, .bool false]) else Go.runtimePanic (.typeAssertion s d u m)) := by
    intro s d m
    refine Sim.ite (fun _ => ?_) fun _ => Sim.runtimePanic hg _
    exact Sim.zeroValue hz fun i v _ _ hv => Sim.retV ⟨_, ⟨_, _, rfl, hv, _, _, rfl, by simp [VRel], rfl⟩, rfl⟩
  refine Sim.underlying fun d _ => ?_
  cases x <;> first | (cases d <;> exact Sim.fail rfl) | skip
  case iface t' v =>
    obtain ⟨v', rfl, kv⟩ := iface_rel hx
    cases d <;> first | exact Sim.ite (fun _ => holds _ _ _ kv) (fun _ => fails _ _ _) | skip
    refine Sim.typeInfo fun i _ => ?_
    split
    · exact holds _ _ _ hx
    · exact fails _ _ _
  case nilIface =>
    simp only [VRel] at hx; subst hx
    cases d <;> exact fails _ _ _

theorem Sim.rangeStr {t : TypeId} {x x' : Value} (hx : VRel ν x x') (hs : tag x = 4) : Sim P ν VRel (Instr.range t x) (Instr.range t x') := by
  cases x <;> simp [tag] at hs
  rename_i s
  rw [VRel.string] at hx; subst hx
  unfold Instr.range
  refine Sim.underlying fun d _ => ?_
  cases d <;> first | exact Sim.fail rfl | skip
  show Sim P ν VRel (do Pure.pure (.pointer (some ⟨← Go.newObj (.stringIter s 0), 0, none⟩))) (do Pure.pure (.pointer (some ⟨← Go.newObj (.stringIter s 0), 0, none⟩)))
  refine Sim.bind' (Sim.newObj (o := .stringIter s 0) (o' := .stringIter s 0) rfl rfl) fun ν1 e a b k => Sim.retV ?_
  exact ⟨⟨b, 0, none⟩, ⟨rfl, _, k, rfl⟩, rfl⟩

theorem Sim.nextStr {t : TypeId} {x x' : Value} (hx : VRel ν x x') : Sim P ν VRel (Instr.next x true t) (Instr.next x' true t) := by
  unfold Instr.next
  cases x <;> first | exact Sim.fail rfl | skip
  rename_i p
  cases p with
  | none => exact Sim.fail rfl
  | some a =>
    obtain ⟨blk, off, spot⟩ := a
    simp only [VRel] at hx
    obtain ⟨b, ⟨hs, L, hL, rfl⟩, rfl⟩ := hx
    simp only at hs hL
    subst hs
    cases off with
    | succ n => exact Sim.fail rfl
    | zero =>
      -- the object lies at its block's begin
      intro ν1 hν s w r s' hR hrun hF
      have hbase : L.base = 0 := by
        obtain ⟨F, hF'⟩ : ∃ F, emb P (Instr.next (.pointer (some ⟨blk, 0, none⟩)) true t) = M.bind (emb P (Go.getObj blk)) F := ⟨_, emb_bind _ _⟩
        obtain ⟨x, s1, h1, _⟩ := M.bind_some (show M.bind (emb P (Go.getObj blk)) F s = some (r, s') by rw [← hF']; exact hrun)
        unfold Go.getObj at h1
        simp only [emb] at h1
        obtain ⟨y, s2, h3, h4⟩ := M.bind_some h1
        obtain ⟨ha, _⟩ := rdK_some h3
        split at h4
        · obtain ⟨L', p, o', q, k, hb⟩ := hR.blk blk _ ha rfl
          rw [hν _ _ hL] at p
          obtain rfl := Option.some.inj p
          exact hb
        · exact (fail_some h4).elim
      revert hrun hF
      revert hR
      revert s w r s'
      revert hν
      revert ν1
      show Sim P ν VRel _ _
      simp only [hbase]
      refine Sim.bind' (Sim.getObj hL rfl) fun ν1 e o o' ko => ?_
      cases o <;> first | exact Sim.fail rfl | skip
      case mapIter m _ _ _ => cases m <;> exact Sim.fail rfl
      rename_i st pos
      simp only [ORel] at ko
      subst ko
      simp only []
      have over : Sim P ν1 VRel (Pure.pure (Value.tuple #[.bool false])) (Pure.pure (Value.tuple #[.bool false])) := Sim.retV (by simp [VRel, VRels, VRell])
      refine Sim.ite (fun _ => ?_) fun _ => over
      refine Sim.bind' (Sim.setObj (e _ _ hL) rfl rfl) fun ν2 e2 _ _ _ => Sim.retV (by simp [VRel, VRels, VRell, goInt])

/-! The built-in functions. -/
theorem Sim.len {ts : Array TypeId} {t : TypeId} {a a' : Array Value} (ha : VRels ν a a') : Sim P ν VRel (Builtin.len_ ts t a) (Builtin.len_ ts t a') := by
  unfold Builtin.len_
  have i : ∀ (ν1 : Nm) n, Sim P ν1 VRel (Pure.pure (goInt n)) (Pure.pure (goInt n)) := fun ν1 n => Sim.retV (by simp [VRel, goInt])
  cases ts[0]? with
  | none => exact Sim.fail rfl
  | some t0 =>
    cases hx : a[0]? with
    | none => exact Sim.fail rfl
    | some x =>
      obtain ⟨x', hx', rx⟩ := ha.get hx
      rw [hx']
      simp only []
      refine Sim.underlying fun d _ => ?_
      split
      case h_1 => rw [VRel.string] at rx; subst rx; exact i _ _
      case h_2 => exact i _ _
      case h_3 =>
        refine Sim.underlying fun d2 _ => ?_
        cases d2 <;> first | exact Sim.fail rfl | exact i _ _
      case h_4 => obtain ⟨_, _, rfl, _⟩ := slc_rel rx; exact i _ _
      case h_5 => simp only [VRel] at rx; subst rx; exact i _ _
      case h_6 => simp only [VRel] at rx; subst rx; exact i _ _
      case h_7 =>
        simp only [VRel] at rx
        obtain ⟨L, hL, rfl⟩ := rx
        refine Sim.bind' (Sim.getObj hL rfl) fun ν1 e o o' ko => ?_
        cases o <;> first | exact Sim.fail rfl | skip
        rename_i es clock
        simp only [ORel] at ko
        obtain ⟨es', kl, rfl⟩ := ko
        simp only []
        rw [show es'.toArray.size = es.size from by have := kl.length; simpa using this]
        exact i _ _
      case h_8 => simp [VRel] at rx
      case h_9 => exact Sim.fail rfl

theorem Sim.cap {ts : Array TypeId} {t : TypeId} {a a' : Array Value} (ha : VRels ν a a') (hc : ∀ x, a[0]? = some x → match x with | .slice _ _ c => c < OPEN | _ => True) :
    Sim P ν VRel (Builtin.cap_ ts t a) (Builtin.cap_ ts t a') := by
  unfold Builtin.cap_
  have i : ∀ (ν1 : Nm) n, Sim P ν1 VRel (Pure.pure (goInt n)) (Pure.pure (goInt n)) := fun ν1 n => Sim.retV (by simp [VRel, goInt])
  cases ts[0]? with
  | none => exact Sim.fail rfl
  | some t0 =>
    cases hx : a[0]? with
    | none => exact Sim.fail rfl
    | some x =>
      obtain ⟨x', hx', rx⟩ := ha.get hx
      have hcx := hc x hx
      rw [hx']
      simp only []
      refine Sim.underlying fun d _ => ?_
      split
      case h_1 => exact i _ _
      case h_2 =>
        refine Sim.underlying fun d2 _ => ?_
        cases d2 <;> first | exact Sim.fail rfl | exact i _ _
      case h_3 =>
        obtain ⟨b', c', rfl, hb⟩ := slice_rel rx
        rename_i _ a0 _ n0 _
        have hcc : c' = n0 := by
          cases a0 with
          | none => exact hb.2.1
          | some b => obtain ⟨_, _, _, _, _, e⟩ := hb; rw [if_pos hcx] at e; exact e
        rw [hcc]
        exact i _ _
      case h_4 => simp only [VRel] at rx; subst rx; exact i _ _
      case h_5 => simp [VRel] at rx
      case h_6 => exact Sim.fail rfl

theorem Sim.lenOf {x x' : Value} (h : VRel ν x x') : Sim P ν Eq' (Builtin.lenOf x) (Builtin.lenOf x') := by
  cases x <;> first | exact Sim.fail rfl | skip
  case string => rw [VRel.string] at h; subst h; exact Sim.retE
  case slice => obtain ⟨_, _, rfl, _⟩ := slc_rel h; exact Sim.retE

theorem VRell.ints (l : List UInt8) : VRell ν (l.map fun b => .int .u8 b.toNat) (l.map fun b => .int .u8 b.toNat) := by
  induction l with
  | nil => simp [VRell]
  | cons a l ih => exact ⟨_, _, rfl, by simp [VRel], ih⟩

theorem Sim.firstCells (size n : Nat) {x x' : Value} (h : VRel ν x x') : Sim P ν (fun ν => VRels ν) (Builtin.firstCells size n x) (Builtin.firstCells size n x') := by
  unfold Builtin.firstCells
  cases x <;> first | exact Sim.fail rfl | skip
  case string s =>
    rw [VRel.string] at h; subst h
    refine Sim.pure fun ν1 _ => ?_
    have h := VRell.ints (ν := ν1) ((s.extract 0 n).data.toList)
    have e : (s.extract 0 n).data.map (fun b => Value.int .u8 b.toNat) = ((s.extract 0 n).data.toList.map fun b => Value.int .u8 b.toNat).toArray := by
      apply Array.ext'; simp
    rw [e]
    exact h
  case slice base l c =>
    obtain ⟨b', c', rfl, hb⟩ := slice_rel h
    cases base with
    | none => obtain ⟨rfl, _⟩ := hb; exact Sim.pure fun _ _ => VRels.nil
    | some a => obtain ⟨b, L, ka, _, rfl, _⟩ := hb; exact Sim.loadCells ka _

theorem Sim.copy {ts : Array TypeId} {t : TypeId} {a a' : Array Value} (ha : VRels ν a a') : Sim P ν VRel (Builtin.copy_ ts t a) (Builtin.copy_ ts t a') := by
  unfold Builtin.copy_
  cases ts[0]? with
  | none => exact Sim.fail rfl
  | some t0 =>
    cases hx : a[0]? with
    | none => exact Sim.fail rfl
    | some x =>
      cases hy : a[1]? with
      | none => exact Sim.fail rfl
      | some y =>
        obtain ⟨x', hx', rx⟩ := ha.get hx
        obtain ⟨y', hy', ry⟩ := ha.get hy
        rw [hx', hy']
        simp only []
        refine Sim.underlying fun d _ => ?_
        cases d <;> first | exact Sim.fail rfl | skip
        cases x <;> first | exact Sim.fail rfl | skip
        rename_i base l c
        obtain ⟨b', c', rfl, hb⟩ := slice_rel rx
        refine Sim.bind' (Sim.lenOf ry) fun ν1 e1 n n' hn => ?_
        subst hn
        refine Sim.sizeOf fun d2 _ => ?_
        refine Sim.bind' (Sim.firstCells _ _ (ry.mono e1)) fun ν2 e2 cs cs' kc => ?_
        have i : ∀ (ν1 : Nm) n, Sim P ν1 VRel (Pure.pure (goInt n)) (Pure.pure (goInt n)) := fun ν1 n => Sim.retV (by simp [VRel, goInt])
        cases base with
        | none => obtain ⟨rfl, _⟩ := hb; exact i _ _
        | some a =>
          obtain ⟨b, L, ka, _, rfl, _⟩ := hb
          exact Sim.bind' (Sim.storeCells (ka.mono (Nm.le_trans e1 e2)) _ _ _ kc.toList) fun ν3 e3 _ _ _ => i _ _

theorem Sim.max2 {x x' y y' : Value} (hx : VRel ν x x') (hy : VRel ν y y') (tx : tag x = 1 ∨ tag x = 4) (ty : tag y = 1 ∨ tag y = 4) :
    Sim P ν (fun ν a b => VRel ν a b ∧ (tag a = 1 ∨ tag a = 4)) (Builtin.max2 x y) (Builtin.max2 x' y') := by
  cases x <;> simp [tag] at tx <;> cases y <;> simp [tag] at ty <;> first | exact Sim.fail rfl | skip
  · rw [VRel.int] at hx hy; subst hx; subst hy
    exact Sim.pure fun _ _ => ⟨by simp [VRel], .inl rfl⟩
  · rw [VRel.string] at hx hy; subst hx; subst hy
    exact Sim.pure fun _ _ => ⟨by simp [VRel], .inr rfl⟩
theorem Sim.min2 {x x' y y' : Value} (hx : VRel ν x x') (hy : VRel ν y y') (tx : tag x = 1 ∨ tag x = 4) (ty : tag y = 1 ∨ tag y = 4) :
    Sim P ν (fun ν a b => VRel ν a b ∧ (tag a = 1 ∨ tag a = 4)) (Builtin.min2 x y) (Builtin.min2 x' y') := by
  cases x <;> simp [tag] at tx <;> cases y <;> simp [tag] at ty <;> first | exact Sim.fail rfl | skip
  · rw [VRel.int] at hx hy; subst hx; subst hy
    exact Sim.pure fun _ _ => ⟨by simp [VRel], .inl rfl⟩
  · rw [VRel.string] at hx hy; subst hx; subst hy
    exact Sim.pure fun _ _ => ⟨by simp [VRel], .inr rfl⟩

theorem Sim.foldM {f : Value → Value → Sem Value}
    (hf : ∀ {ν : Nm} {x x' y y' : Value}, VRel ν x x' → VRel ν y y' → (tag x = 1 ∨ tag x = 4) → (tag y = 1 ∨ tag y = 4) → Sim P ν (fun ν a b => VRel ν a b ∧ (tag a = 1 ∨ tag a = 4)) (f x y) (f x' y')) :
    ∀ {l l' : List Value} {ν : Nm} {x x' : Value}, VRell ν l l' → VRel ν x x' → (tag x = 1 ∨ tag x = 4) → (∀ y ∈ l, tag y = 1 ∨ tag y = 4) → Sim P ν VRel (l.foldlM f x) (l'.foldlM f x') := by
  intro l
  induction l with
  | nil => intro l' ν x x' h hx _ _; simp only [VRell] at h; subst h; exact Sim.retV hx
  | cons a l ih =>
    intro l' ν x x' h hx tx tl
    simp only [VRell] at h
    obtain ⟨b, l2, rfl, p, q⟩ := h
    simp only [List.foldlM_cons]
    refine Sim.bind' (hf hx p tx (tl a (by simp))) fun ν1 e r r' k => ?_
    exact ih (VRell.mono e q) k.1 k.2 fun y hy => tl y (by simp [hy])

theorem Sim.max {ts : Array TypeId} {t : TypeId} {a a' : Array Value} (ha : VRels ν a a') (hc : ∀ x ∈ a.toList, tag x = 1 ∨ tag x = 4) : Sim P ν VRel (Builtin.max_ ts t a) (Builtin.max_ ts t a') := by
  have h := ha.toList
  unfold Builtin.max_
  revert h hc
  cases a.toList with
  | nil => intro _ h; exact Sim.fail rfl
  | cons x l =>
    intro hc h
    simp only [VRell] at h
    obtain ⟨b, l2, e, p, q⟩ := h
    rw [e]
    exact Sim.foldM Sim.max2 q p (hc x (by simp)) fun y hy => hc y (by simp [hy])
theorem Sim.min {ts : Array TypeId} {t : TypeId} {a a' : Array Value} (ha : VRels ν a a') (hc : ∀ x ∈ a.toList, tag x = 1 ∨ tag x = 4) : Sim P ν VRel (Builtin.min_ ts t a) (Builtin.min_ ts t a') := by
  have h := ha.toList
  unfold Builtin.min_
  revert h hc
  cases a.toList with
  | nil => intro _ h; exact Sim.fail rfl
  | cons x l =>
    intro hc h
    simp only [VRell] at h
    obtain ⟨b, l2, e, p, q⟩ := h
    rw [e]
    exact Sim.foldM Sim.min2 q p (hc x (by simp)) fun y hy => hc y (by simp [hy])

theorem Sim.panic (_hg : GOk P ν) {x x' : Value} (h : VRel ν x x') : Sim P ν VRel (Instr.panic x) (Instr.panic x') := by
  unfold Instr.panic
  cases x <;> first | exact Sim.fail rfl | skip
  obtain ⟨x', rfl, _⟩ := iface_rel h
  exact Sim.goPanic h
end
end Go.Dee
