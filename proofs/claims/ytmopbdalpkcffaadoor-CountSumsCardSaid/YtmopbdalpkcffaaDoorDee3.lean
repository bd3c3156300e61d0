/- Dee, part 3: the primitives. -/
import Derived.Test.YtmopbdalpkcffaaDoorDee2
namespace Go.Dee
open Go
section
variable {P : Program} {ν : Nm}

theorem S.at_put (s : S) (b j : Nat) (x : KV) (b' j' : Nat) : (s.put b j x).at b' j' = if b' = b ∧ j' = j then some x else s.at b' j' := by
  simp only [S.put, S.at, T.get_set]
  by_cases h : b' = b
  · subst h
    simp only [if_true, Option.bind_some, T.get_set, true_and]
    by_cases h2 : j' = j
    · simp [h2]
    · simp only [if_neg h2]
      cases s.h.get b' <;> simp [T.get]
  · simp [h]

theorem S.at_note (s : S) (b j : Nat) (w : Bool) (b' j' : Nat) : (s.note b j w).at b' j' = s.at b' j' := by
  unfold S.note; split <;> rfl

theorem S.at_new (s : S) (t : T KV) (b j : Nat) : ({ s with n := s.n + 1, h := s.h.set s.n t } : S).at b j = if b = s.n then t.get j else s.at b j := by
  simp only [S.at, T.get_set]
  by_cases h : b = s.n
  · simp [h]
  · simp [h]

/-- Two states of the same heap. -/
structure Same (s s' : S) : Prop where
  at_ : ∀ b j, s'.at b j = s.at b j
  n : s'.n = s.n
theorem Same.note (s : S) (b j : Nat) (w : Bool) : Same s (s.note b j w) := ⟨fun _ _ => S.at_note _ _ _ _ _ _, note_n _ _ _ _⟩
theorem Same.trans {a b c : S} (h : Same a b) (k : Same b c) : Same a c := ⟨fun x j => (k.at_ x j).trans (h.at_ x j), k.n.trans h.n⟩
theorem Same.refl (a : S) : Same a a := ⟨fun _ _ => rfl, rfl⟩
theorem Same.symm {a b : S} (h : Same a b) : Same b a := ⟨fun x j => (h.at_ x j).symm, h.n.symm⟩

theorem BRel.same {s s' : S} {b : Nat} {L : Loc} {w : World} {m : DM} (h : Same s s') (k : BRel P ν s b L w m) : BRel P ν s' b L w m := by
  cases m with
  | dead => trivial
  | rows n size row => trivial
  | obj o => exact k
  | cells len e m fz =>
    obtain ⟨rc, re, rf, a, c, d, f, g, i⟩ := k
    exact ⟨rc, re, rf, a, c, fun i v hi hv ht => d i v hi (by rw [← h.at_]; exact hv) ht, f, g, i⟩

theorem R.same {s s' : S} {w : World} (h : Same s s') (k : R P ν s w) : R P ν s' w where
  blk := fun b m hb hm => by
    rw [h.at_] at hb
    obtain ⟨L, a, c⟩ := k.blk b m hb hm
    exact ⟨L, a, c.same h⟩
  apart := fun b b' m m' L L' hb hb' => by
    rw [h.at_] at hb hb'
    exact k.apart b b' m m' L L' hb hb'

theorem Own.same {s s' : S} (h : Same s s') {r : Nat} (k : Own ν s r) : Own ν s' r := by
  obtain ⟨b, m, L, a, c, d, e⟩ := k
  exact ⟨b, m, L, by rw [h.at_]; exact a, c, d, e⟩

theorem Fr.same {s s' : S} (w : World) (h : Same s s') : Fr ν s w ν s' w :=
  ⟨by rw [h.n]; exact Nat.le_refl _, rfl, rfl, rfl, Nat.le_refl _, fun _ _ _ => rfl, fun _ k => .inl (k.same h.symm), Nm.le_refl _, fun _ k _ => k, fun b n size row q => .inl (by rw [← h.at_]; exact q)⟩

theorem rdK_some {b j : Nat} {s s' : S} {x : KV} (h : rdK b j s = some (x, s')) : s.at b j = some x ∧ Same s s' := by
  simp only [rdK] at h
  split at h
  · split at h
    · simp at h
    · rename_i y hy
      simp only [Option.some.injEq, Prod.mk.injEq] at h
      obtain ⟨rfl, rfl⟩ := h
      exact ⟨hy, Same.note _ _ _ _⟩
  · simp at h
theorem wrK_some {b j : Nat} {s s' : S} {x : KV} {u : Unit} (h : wrK b j x s = some (u, s')) : u = () ∧ s' = (s.put b j x).note b j true := by
  simp only [wrK] at h
  split at h
  · simp only [Option.some.injEq, Prod.mk.injEq] at h
    exact ⟨rfl, h.2.symm⟩
  · simp at h

theorem pure_some {α : Type} {a b : α} {s s' : S} (h : (Pure.pure a : M α) s = some (b, s')) : b = a ∧ s' = s := by
  simp only [Pure.pure, Option.some.injEq, Prod.mk.injEq] at h
  exact ⟨h.1.symm, h.2.symm⟩
theorem fail_some {α : Type} {b : α} {s s' : S} (h : (fail : M α) s = some (b, s')) : False := by simp [fail] at h

theorem rd_some {b i : Nat} {s s' : S} {v : Value} (h : rd b i s = some (v, s')) :
    ∃ len e m fz, s.at b 0 = some (.hd (.cells len e m fz)) ∧ i < len ∧ s.at b (i + 1) = some (.val v) ∧ isTup v = false ∧ Same s s' := by
  obtain ⟨x, s1, h1, h2⟩ := M.bind_some h
  obtain ⟨ha, hs⟩ := rdK_some h1
  split at h2
  · rename_i len e m fz
    split at h2
    · rename_i hi
      obtain ⟨y, s2, h3, h4⟩ := M.bind_some h2
      obtain ⟨hb, hs2⟩ := rdK_some h3
      split at h4
      · rename_i v'
        split at h4
        · exact (fail_some h4).elim
        · rename_i ht
          obtain ⟨rfl, rfl⟩ := pure_some h4
          exact ⟨len, e, m, fz, ha, hi, by rw [← hs.at_]; exact hb, by simpa using ht, hs.trans hs2⟩
      · exact (fail_some h4).elim
    · exact (fail_some h2).elim
  · exact (fail_some h2).elim

theorem cell_of_block {w : World} {r i : Nat} {c : Array Value} {e : TypeId} {f : Nat × Nat} {v : Value} (h : w.heap[r]? = some (.cells c e f)) (hv : c[i]? = some v) :
    w.cell? ⟨r, i, none⟩ = some v := by simp [World.cell?, h, hv]

theorem R.read {s : S} {w : World} (hR : R P ν s w) {b i len : Nat} {e : TypeId} {m : BMode} {fz : Nat × Nat} {v : Value} {L : Loc}
    (hm : s.at b 0 = some (.hd (.cells len e m fz))) (hi : i < len) (hv : s.at b (i + 1) = some (.val v)) (ht : isTup v = false) (hL : ν b = some L) :
    ∃ v', w.cell? ⟨L.blk, L.base + i, none⟩ = some v' ∧ VRel ν v v' := by
  obtain ⟨L', hL', rc, re, rf, h1, h2, h3, _⟩ := hR.blk b _ hm rfl
  rw [hL] at hL'
  obtain rfl := Option.some.inj hL'
  obtain ⟨v', a, c⟩ := h3 i v hi hv ht
  exact ⟨v', cell_of_block h1 a, c⟩

theorem Sim.load {a a' : Addr} (h : ARel ν a a') : Sim P ν VRel (Go.load a) (Go.load a') := by
  intro ν1 hν s w r s' hR hrun hF
  obtain ⟨hs, L, hL, rfl⟩ := h.mono hν
  unfold Go.load at hrun
  simp only [emb, hs] at hrun
  obtain ⟨v, s1, h1, h2⟩ := M.bind_some hrun
  obtain ⟨len, e, m, fz, hm, hi, hv, ht, hS⟩ := rd_some h1
  obtain ⟨rfl, rfl⟩ := pure_some h2
  obtain ⟨v', hc, hrel⟩ := hR.read hm hi hv ht hL
  exact ⟨ν1, v', w, by simp [Go.load, Sem.run, hc], hR.same hS, Fr.same w hS, hrel⟩

theorem wr_some {b i : Nat} {v : Value} {s s' : S} {u : Unit} (h : wr b i v s = some (u, s')) :
    ∃ len e m fz, s.at b 0 = some (.hd (.cells len e m fz)) ∧ i < len ∧ m ≠ .ro ∧ ¬(fz.1 ≤ i ∧ i < fz.2) ∧ Same (s.put b (i + 1) (.val v)) s' := by
  obtain ⟨x, s1, h1, h2⟩ := M.bind_some h
  obtain ⟨ha, hs⟩ := rdK_some h1
  split at h2
  · rename_i len e m fz
    split at h2
    · rename_i hi
      obtain ⟨_, rfl⟩ := wrK_some h2
      simp only [Bool.and_eq_true, decide_eq_true_eq, Bool.not_eq_true', Bool.and_eq_false_iff, decide_eq_false_iff_not] at hi
      refine ⟨len, e, m, fz, ha, hi.1.1, by simpa using hi.1.2, by omega, ?_⟩
      refine Same.trans ⟨fun b' j' => ?_, ?_⟩ (Same.note _ _ _ _)
      · rw [S.at_put, S.at_put, hs.at_]
      · exact hs.n
    · exact (fail_some h2).elim
  · exact (fail_some h2).elim

theorem VRel.one {u v : Value} (h : VRel ν u v) (k : Value.one u = true) : Value.one v = true := by
  cases u <;> simp only [Value.one] at k <;> (try simp at k)
  case pointer a => cases a <;> simp only [VRel] at h <;> first | (subst h; rfl) | (obtain ⟨_, _, rfl⟩ := h; rfl)
  case slice a l c => cases a <;> simp only [VRel] at h <;> first | (obtain ⟨_, rfl⟩ := h; rfl) | (obtain ⟨_, _, _, _, rfl⟩ := h; rfl)
  case map a => cases a <;> simp only [VRel] at h <;> first | (subst h; rfl) | (obtain ⟨_, _, rfl⟩ := h; rfl)
  case chan a => cases a with
    | none => simp only [VRel] at h; subst h; rfl
    | some a => simp [VRel] at h
  case func => simp only [VRel] at h; obtain ⟨_, _, _, _, _, _, rfl⟩ := h; rfl
  case iface => simp only [VRel] at h; obtain ⟨_, _, rfl⟩ := h; rfl
  all_goals (simp only [VRel] at h; subst h; rfl)

theorem run_store {w : World} {r i : Nat} {v x : Value} (hc : w.cell? ⟨r, i, none⟩ = some x) (hf : w.frozen? ⟨r, i, none⟩ = false) (ho : Value.one v = true) :
    (Go.store ⟨r, i, none⟩ v).run P w = .ok () (w.setCell ⟨r, i, none⟩ v) := by
  cases v <;> first | (simp [Go.store, Sem.run, hc, hf]; done) | simp [Value.one] at ho

theorem Sim.store {a a' : Addr} {u v : Value} (h : ARel ν a a') (hv : VRel ν u v) : Sim P ν (fun _ _ _ => True) (Go.store a u) (Go.store a' v) := by
  intro ν1 hν s w r s' hR hrun hF
  obtain ⟨hs, L, hL, rfl⟩ := h.mono hν
  have hv1 := hv.mono hν
  unfold Go.store at hrun
  simp only [emb, hs] at hrun
  split at hrun
  case isFalse => exact (fail_some hrun).elim
  rename_i hone
  simp only [Option.isNone_none, Bool.and_true, Bool.and_eq_true, decide_eq_true_eq] at hone
  obtain ⟨x, s1, h1, h2⟩ := M.bind_some hrun
  obtain ⟨len, e, m, fz, hm, hi, hro, hfz, hS⟩ := wr_some h1
  obtain ⟨rfl, rfl⟩ := pure_some h2
  obtain ⟨L', hL', rc, re, rf, g1, g2, g3, g4, g5, g6⟩ := hR.blk a.block _ hm rfl
  rw [hL] at hL'
  obtain rfl := Option.some.inj hL'
  have hcell : w.cell? ⟨L.blk, L.base + a.off, none⟩ = some (rc[L.base + a.off]'(by omega)) := cell_of_block g1 (by simp)
  have hfro : w.frozen? ⟨L.blk, L.base + a.off, none⟩ = false := by
    simp only [World.frozen?, g1]
    obtain ⟨lo, hi'⟩ := rf
    simp only [Bool.and_eq_false_iff, decide_eq_false_iff_not]
    by_cases q : lo ≤ L.base + a.off ∧ L.base + a.off < hi'
    · have := (g4 hro).2 (L.base + a.off) (by omega) (by omega) q.1 q.2
      exact absurd (by simpa using this) hfz
    · omega
  refine ⟨ν1, (), w.setCell ⟨L.blk, L.base + a.off, none⟩ v, run_store hcell hfro (hv1.one hone.2), ?_, ?_, trivial⟩
  · refine R.same hS ⟨fun b m' hb hl => ?_, fun b b' m1 m2 L1 L2 hb hb' => ?_⟩
    · rw [S.at_put] at hb
      rw [if_neg (by simp)] at hb
      obtain ⟨L2, q1, q2⟩ := hR.blk b m' hb hl
      refine ⟨L2, q1, ?_⟩
      by_cases hbb : b = a.block
      · subst hbb
        rw [hm] at hb
        obtain rfl := KV.hd.inj (Option.some.inj hb)
        rw [hL] at q1
        obtain rfl := Option.some.inj q1
        refine ⟨rc.setIfInBounds (L.base + a.off) v, re, rf, ?_, by simpa using g2, fun i x hi' hx ht => ?_, fun hr => ?_, fun hr => by simpa using g5 hr, fun hr => by simpa using g6 hr⟩
        · simp [World.setCell, Array.getElem?_modify, g1]
        · rw [S.at_put] at hx
          by_cases hia : i = a.off
          · subst hia
            rw [if_pos ⟨rfl, rfl⟩] at hx
            obtain rfl := KV.val.inj (Option.some.inj hx)
            exact ⟨v, by rw [Array.getElem?_setIfInBounds_self_of_lt (by omega)], hv1⟩
          · rw [if_neg (by omega)] at hx
            obtain ⟨v', c1, c2⟩ := g3 i x hi' hx ht
            exact ⟨v', by rw [Array.getElem?_setIfInBounds_ne (by omega)]; exact c1, c2⟩
        · simpa using g4 hr
      · have hne : L2.blk ≠ L.blk := fun e2 => hR.apart a.block b _ m' L L2 hm hb (by cases m <;> first | rfl | exact absurd rfl hro) hl hL q1 (Ne.symm hbb) e2.symm
        have hheap : (w.setCell ⟨L.blk, L.base + a.off, none⟩ v).heap[L2.blk]? = w.heap[L2.blk]? := by
          simp only [World.setCell, Array.getElem?_modify]; rw [if_neg (fun e => hne e.symm)]
        cases m' with
        | dead => trivial
        | rows n size row => trivial
        | obj o => obtain ⟨o', c1, c2⟩ := q2; exact ⟨o', by rw [hheap]; exact c1, c2⟩
        | cells len2 e2 m2 fz2 =>
          obtain ⟨rc2, re2, rf2, c1, c2, c3, c4⟩ := q2
          exact ⟨rc2, re2, rf2, by rw [hheap]; exact c1, c2, fun i x hi' hx ht => c3 i x hi' (by rw [S.at_put, if_neg (by simp [hbb])] at hx; exact hx) ht, c4⟩
    · rw [S.at_put, if_neg (by simp)] at hb hb'
      exact hR.apart b b' m1 m2 L1 L2 hb hb'
  · refine ⟨by rw [hS.n]; exact Nat.le_refl _, rfl, rfl, rfl, by simp [World.setCell], fun r hr ho => ?_, fun r o => .inl ?_, Nm.le_refl _, fun _ k _ => k, fun b n size row q => .inl (by rw [hS.at_, S.at_put, if_neg (by simp)] at q; exact q)⟩
    · simp only [World.setCell, Array.getElem?_modify]
      rw [if_neg]
      intro e2
      exact ho ⟨a.block, _, L, hm, by cases m <;> first | rfl | exact absurd rfl hro, hL, e2⟩
    · obtain ⟨b, m', L2, q1, q2, q3, q4⟩ := o
      rw [hS.at_, S.at_put, if_neg (by simp)] at q1
      exact ⟨b, m', L2, q1, q2, q3, q4⟩

def Nm.put (ν : Nm) (b : Nat) (L : Loc) : Nm := fun x => if x = b then some L else ν x
theorem Nm.le_put {ν : Nm} {b : Nat} {L : Loc} (h : ν b = none) : ν.le (ν.put b L) := by
  intro x L' e
  simp only [Nm.put]
  split
  · subst x; rw [h] at e; simp at e
  · exact e

theorem BRel.ext {ν' : Nm} {s s' : S} {b : Nat} {L : Loc} {w w' : World} {m : DM} (hν : ν.le ν') (hat : ∀ j, s'.at b j = s.at b j) (hw : w'.heap[L.blk]? = w.heap[L.blk]?)
    (k : BRel P ν s b L w m) : BRel P ν' s' b L w' m := by
  cases m with
  | dead => trivial
  | rows n size row => trivial
  | obj o => obtain ⟨o', a, c, d⟩ := k; exact ⟨o', by rw [hw]; exact a, c.mono hν, d⟩
  | cells len e m fz =>
    obtain ⟨rc, re, rf, a, c, d, f, g, i⟩ := k
    exact ⟨rc, re, rf, by rw [hw]; exact a, c, fun i v hi hv ht => by
      obtain ⟨v', p, q⟩ := d i v hi (by rw [← hat]; exact hv) ht
      exact ⟨v', p, q.mono hν⟩, f, g, i⟩

theorem heap_lt {w : World} {r : Nat} {o : Obj} (h : w.heap[r]? = some o) : r < w.heap.size := (Array.getElem?_eq_some_iff.1 h).1

theorem BRel.lt {s : S} {b : Nat} {L : Loc} {w : World} {m : DM} (h : live m = true) (k : BRel P ν s b L w m) : L.blk < w.heap.size := by
  cases m with
  | dead => simp [live] at h
  | rows n size row => simp [live] at h
  | obj o => obtain ⟨o', a, _⟩ := k; exact heap_lt a
  | cells => obtain ⟨rc, re, rf, a, _⟩ := k; exact heap_lt a

/-- A new block, on both sides. -/
theorem R.new {s : S} {w : World} (hR : R P ν s w) (hF : ν s.n = none) (t : T KV) (m : DM) (o : Obj) (sl : Nat) (ht : t.get 0 = some (.hd m))
    (hB : BRel P (ν.put s.n ⟨w.heap.size, 0, sl⟩) { s with n := s.n + 1, h := s.h.set s.n t } s.n ⟨w.heap.size, 0, sl⟩ { w with heap := w.heap.push o } m) :
    R P (ν.put s.n ⟨w.heap.size, 0, sl⟩) { s with n := s.n + 1, h := s.h.set s.n t } { w with heap := w.heap.push o } := by
  have hle : ν.le (ν.put s.n ⟨w.heap.size, 0, sl⟩) := Nm.le_put hF
  have hpush : ∀ r, r < w.heap.size → (w.heap.push o)[r]? = w.heap[r]? := fun r hr => by rw [Array.getElem?_push, if_neg (by omega)]
  have old : ∀ b m', b ≠ s.n → s.at b 0 = some (.hd m') → live m' = true → ∃ L, ν b = some L ∧ L.blk < w.heap.size ∧ BRel P ν s b L w m' := by
    intro b m' hb h1 h2
    obtain ⟨L, p, q⟩ := hR.blk b m' h1 h2
    exact ⟨L, p, q.lt h2, q⟩
  refine ⟨fun b m' hb hl => ?_, fun b b' m1 m2 L1 L2 hb hb' ho hl e1 e2 hne => ?_⟩
  · rw [S.at_new] at hb
    by_cases h : b = s.n
    · subst h
      rw [if_pos rfl, ht] at hb
      obtain rfl := KV.hd.inj (Option.some.inj hb)
      exact ⟨_, by simp [Nm.put], hB⟩
    · rw [if_neg h] at hb
      obtain ⟨L, p, q, k⟩ := old b m' h hb hl
      exact ⟨L, hle _ _ p, k.ext hle (fun j => by rw [S.at_new, if_neg h]) (hpush _ q)⟩
  · rw [S.at_new] at hb hb'
    by_cases h : b = s.n
    · have h' : b' ≠ s.n := fun e => hne (h.trans e.symm)
      rw [if_neg h'] at hb'
      obtain ⟨L, p, q, _⟩ := old b' m2 h' hb' hl
      rw [hle _ _ p] at e2
      obtain rfl := Option.some.inj e2
      rw [h] at e1
      simp only [Nm.put, if_true, Option.some.injEq] at e1
      subst e1
      show w.heap.size ≠ _
      omega
    · rw [if_neg h] at hb
      have ho' : live m1 = true := owns_live ho
      obtain ⟨L, p, q, _⟩ := old b m1 h hb ho'
      rw [hle _ _ p] at e1
      obtain rfl := Option.some.inj e1
      by_cases h' : b' = s.n
      · rw [h'] at e2
        simp only [Nm.put, if_true, Option.some.injEq] at e2
        subst e2
        show _ ≠ w.heap.size
        omega
      · rw [if_neg h'] at hb'
        obtain ⟨L', p', q', _⟩ := old b' m2 h' hb' hl
        rw [hle _ _ p'] at e2
        obtain rfl := Option.some.inj e2
        exact hR.apart b b' m1 m2 _ _ hb hb' ho hl p p' hne

theorem Fr.new {s : S} {w : World} (hF : ν s.n = none) (t : T KV) (o : Obj) (sl : Nat) (hr : ∀ n size row, t.get 0 ≠ some (.hd (.rows n size row))) :
    Fr ν s w (ν.put s.n ⟨w.heap.size, 0, sl⟩) { s with n := s.n + 1, h := s.h.set s.n t } { w with heap := w.heap.push o } where
  n := by simp
  os := rfl
  tape := rfl
  output := rfl
  size := by simp
  keep := fun r hr _ => by show (w.heap.push o)[r]? = _; rw [Array.getElem?_push, if_neg (by omega)]
  own := fun r ⟨b, m, L, h1, h2, h3, h4⟩ => by
    rw [S.at_new] at h1
    by_cases h : b = s.n
    · rw [h] at h3
      simp only [Nm.put, if_true, Option.some.injEq] at h3
      subst h3
      exact .inr (by show w.heap.size ≤ r; rw [← h4]; exact Nat.le_refl _)
    · rw [if_neg h] at h1
      simp only [Nm.put, if_neg h] at h3
      exact .inl ⟨b, m, L, h1, h2, h3, h4⟩
  ext := Nm.le_put hF
  dom := fun b hb hr => by
    simp only [Nm.put]
    rw [if_neg]
    · exact hb
    · rintro rfl; simp only at hr; omega
  rows := fun b n size row q => by
    rw [S.at_new] at q
    by_cases h : b = s.n
    · rw [if_pos h] at q; exact absurd q (hr _ _ _)
    · rw [if_neg h] at q; exact .inl q

theorem VRell.get : ∀ {x y : List Value}, VRell ν x y → x.length = y.length ∧ ∀ (i : Nat) (v : Value), x[i]? = some v → ∃ v', y[i]? = some v' ∧ VRel ν v v'
  | [], y => by simp only [VRell]; rintro rfl; simp
  | a :: x, y => by
    simp only [VRell]
    rintro ⟨b, y', rfl, k, r⟩
    obtain ⟨h1, h2⟩ := VRell.get r
    refine ⟨by simp [h1], fun i v hv => ?_⟩
    cases i with
    | zero => simp at hv; subst hv; exact ⟨b, rfl, k⟩
    | succ i => simp at hv ⊢; exact h2 i v hv

theorem blk_get_zero (c : List Value) (e : TypeId) (m : BMode) (fz : Nat × Nat) : (blk c e m fz).get 0 = some (.hd (.cells c.length e m fz)) := by
  simp [blk, T.get_ofList, T.get]
theorem blk_get_succ (c : List Value) (e : TypeId) (m : BMode) (fz : Nat × Nat) (i : Nat) : (blk c e m fz).get (i + 1) = (c[i]?).map .val := by
  simp only [blk, T.get_ofList, List.length_map, List.getElem?_map]
  by_cases h : i < c.length
  · rw [if_pos (by omega)]; rw [show i + 1 - 1 = i from by omega]
  · rw [if_neg (by omega)]
    rw [List.getElem?_eq_none (by omega)]
    simp [T.get]

/-- A row of cells, laid on both sides; the world's may be longer. -/
theorem Sim.cells {s s' : S} {w : World} {c c' : List Value} {e : TypeId} {m : BMode} {fz : Nat × Nat} {b : Nat} (hR : R P ν s w) (hF : Fresh ν s.n s'.n)
    (hrun : newCells c e m fz s = some (b, s')) (hc : VRell ν c c') (more : List Value) (rf : Nat × Nat) (sl : Nat)
    (hm : m ≠ .ro → ∀ i, i < c'.length + more.length → rf.1 ≤ i → i < rf.2 → fz.1 ≤ i ∧ i < fz.2) (hrw : m = .rw → more = []) (hop : m = .opn → more.length = sl * P.cellsOf e) :
    ∃ ν', R P ν' s' { w with heap := w.heap.push (.cells (c' ++ more).toArray e rf) } ∧ Fr ν s w ν' s' { w with heap := w.heap.push (.cells (c' ++ more).toArray e rf) } ∧
      ν' b = some ⟨w.heap.size, 0, sl⟩ := by
  simp only [newCells, newB, Option.some.injEq, Prod.mk.injEq] at hrun
  obtain ⟨rfl, rfl⟩ := hrun
  have hn : ν s.n = none := hF s.n (Nat.le_refl _) (by simp)
  obtain ⟨hlen, hget⟩ := VRell.get hc
  refine ⟨ν.put s.n ⟨w.heap.size, 0, sl⟩, R.new hR hn _ _ _ sl (blk_get_zero c e m fz) ?_, Fr.new hn _ _ _ (fun n size row q => by rw [blk_get_zero] at q; simp at q), by simp [Nm.put]⟩
  refine ⟨(c' ++ more).toArray, e, rf, by simp, by simp; omega, fun i v hi hv ht => ?_, fun hr => ⟨rfl, fun i _ hi h1 h2 => ?_⟩, fun hr => ⟨rfl, by simp [hrw hr, hlen]⟩, fun hr => by simp [hop hr, hlen]⟩
  · rw [S.at_new, if_pos rfl, blk_get_succ] at hv
    cases hx : c[i]? with
    | none => rw [hx] at hv; simp at hv
    | some x =>
      rw [hx] at hv
      simp at hv
      subst hv
      obtain ⟨v', p, q⟩ := hget i x hx
      refine ⟨v', ?_, q.mono (Nm.le_put hn)⟩
      have hi' : i < c'.length := by omega
      simp only [Nat.zero_add, List.getElem?_toArray]
      rw [List.getElem?_append_left hi']
      exact p
  · have := hm hr i (by simpa using hi) h1 h2
    simpa using this

theorem VRels.toList {x y : Array Value} (h : VRels ν x y) : VRell ν x.toList y.toList := by cases x; exact h

/-- A new row of cells, exact. -/
theorem Sim.newCells {x y : Array Value} {e : TypeId} (h : VRels ν x y) :
    Sim P ν (fun ν r r' => ∃ sl, ν r = some ⟨r', 0, sl⟩) (newObj (.cells x e)) (newObj (.cells y e)) := by
  intro ν1 hν s w r s' hR hrun hF
  unfold newObj at hrun
  simp only [emb] at hrun
  obtain ⟨b, s1, h1, h2⟩ := M.bind_some hrun
  obtain ⟨rfl, rfl⟩ := pure_some h2
  have h1' : Dee.newCells x.toList e .rw (0, 0) s = some (b, s') := h1
  obtain ⟨ν', hR', hFr, hb⟩ := Sim.cells hR hF h1' (h.toList.mono hν) [] (0, 0) 0 (fun _ i _ a c => absurd c (by omega)) (fun _ => rfl) (fun hc => by simp)
  simp only [List.append_nil, Array.toArray_toList] at hR' hFr
  exact ⟨ν', w.heap.size, _, rfl, hR', hFr, ⟨0, hb⟩⟩

theorem okObj_new {o : Obj} (h : okObj o = true) : newObjD o = newB (T.n .e (some (.hd (.obj o))) .e) := by
  cases o <;> simp_all [newObjD, okObj]

/-- A new object that is no cells. -/
theorem Sim.newObj {o o' : Obj} (ho : okObj o = true) (h : ORel ν o o') :
    Sim P ν (fun ν r r' => ν r = some ⟨r', 0, 0⟩) (Go.newObj o) (Go.newObj o') := by
  intro ν1 hν s w r s' hR hrun hF
  unfold Go.newObj at hrun
  simp only [emb, okObj_new ho] at hrun
  obtain ⟨b, s1, h1, h2⟩ := M.bind_some hrun
  obtain ⟨rfl, rfl⟩ := pure_some h2
  simp only [newB, Option.some.injEq, Prod.mk.injEq] at h1
  obtain ⟨rfl, rfl⟩ := h1
  have hn : ν1 s.n = none := hF s.n (Nat.le_refl _) (by simp)
  refine ⟨ν1.put s.n ⟨w.heap.size, 0, 0⟩, w.heap.size, _, rfl, R.new hR hn _ (.obj o) _ 0 (by simp [T.get]) ?_, Fr.new hn _ _ _ (fun n size row q => by simp [T.get] at q), by simp [Nm.put]⟩
  exact ⟨o', by simp, h.mono (Nm.le_trans hν (Nm.le_put hn)), rfl⟩

theorem ORel.noCells {o : Obj} {c : Array Value} {e : TypeId} {f : Nat × Nat} (h : ORel ν o (.cells c e f)) : False := by
  cases o with
  | deferred ds => cases ds <;> simp [ORel] at h
  | _ => simp [ORel] at h

theorem Sim.getObj {r r' : Nat} {L : Loc} (hr : ν r = some L) (hL : L.blk = r') : Sim P ν ORel (Go.getObj r) (Go.getObj r') := by
  intro ν1 hν s w x s' hR hrun hF
  unfold Go.getObj at hrun
  simp only [emb] at hrun
  obtain ⟨y, s1, h1, h2⟩ := M.bind_some hrun
  obtain ⟨ha, hS⟩ := rdK_some h1
  split at h2
  · rename_i o
    obtain ⟨rfl, rfl⟩ := pure_some h2
    obtain ⟨L', p, o', q, k, _⟩ := hR.blk r _ ha rfl
    rw [hν _ _ hr] at p
    obtain rfl := Option.some.inj p
    refine ⟨ν1, o', w, ?_, hR.same hS, Fr.same w hS, k⟩
    subst hL
    unfold Go.getObj
    simp only [Sem.run, q]
    cases o' <;> first | rfl | exact k.noCells.elim
  · exact (fail_some h2).elim

theorem Sim.setObj {r r' : Nat} {o o' : Obj} {L : Loc} (hr : ν r = some L) (hL : L.blk = r') (h : ORel ν o o') :
    Sim P ν (fun _ _ _ => True) (Go.setObj r o) (Go.setObj r' o') := by
  intro ν1 hν s w x s' hR hrun hF
  unfold Go.setObj at hrun
  simp only [emb] at hrun
  obtain ⟨y, s1, h1, h2⟩ := M.bind_some hrun
  obtain ⟨ha, hS⟩ := rdK_some h1
  split at h2
  case h_2 => exact (fail_some h2).elim
  rename_i o0
  split at h2
  case isFalse => exact (fail_some h2).elim
  rename_i hok
  obtain ⟨u, s2, h3, h4⟩ := M.bind_some h2
  obtain ⟨rfl, rfl⟩ := pure_some h4
  obtain ⟨_, rfl⟩ := wrK_some h3
  have hS' : Same (s.put r 0 (.hd (.obj o))) ((s1.put r 0 (.hd (.obj o))).note r 0 true) :=
    Same.trans (b := s1.put r 0 (.hd (.obj o))) ⟨fun b j => by simp only [S.at_put, hS.at_], hS.n⟩ (Same.note _ _ _ _)
  obtain ⟨L', p, oo, q, k, hb⟩ := hR.blk r _ ha rfl
  have hrL := hν _ _ hr
  rw [hrL] at p
  obtain rfl := Option.some.inj p
  have hoo : ∀ c e f, oo ≠ .cells c e f := by
    rintro c e f rfl
    exact k.noCells
  subst hL
  have hlt := heap_lt q
  refine ⟨ν1, (), { w with heap := w.heap.setIfInBounds L.blk o' }, ?_, R.same hS' ⟨fun b m hb' hl => ?_, fun b b' m1 m2 L1 L2 hb1 hb2 h5 h6 => ?_⟩, ?_, trivial⟩
  · unfold Go.setObj
    simp only [Sem.run, q]
  · rw [S.at_put] at hb'
    by_cases hbr : b = r
    · subst hbr
      rw [if_pos ⟨rfl, rfl⟩] at hb'
      obtain rfl := KV.hd.inj (Option.some.inj hb')
      exact ⟨L, hrL, o', by simp [hlt], h.mono hν, hb⟩
    · rw [if_neg (by simp [hbr])] at hb'
      obtain ⟨L2, q1, q2⟩ := hR.blk b m hb' hl
      have hne : L.blk ≠ L2.blk := hR.apart r b _ m L L2 ha hb' rfl hl hrL q1 (Ne.symm hbr)
      exact ⟨L2, q1, q2.ext (Nm.le_refl _) (fun j => by rw [S.at_put, if_neg (by simp [hbr])]) (by simp [Array.getElem?_setIfInBounds_ne hne])⟩
  · rw [S.at_put] at hb1 hb2
    have f1 : ∃ m1', s.at b 0 = some (.hd m1') ∧ owns m1' = true := by
      by_cases hbr : b = r
      · subst hbr; exact ⟨_, ha, rfl⟩
      · rw [if_neg (by simp [hbr])] at hb1; exact ⟨_, hb1, h5⟩
    have f2 : ∃ m2', s.at b' 0 = some (.hd m2') ∧ live m2' = true := by
      by_cases hbr : b' = r
      · subst hbr; exact ⟨_, ha, rfl⟩
      · rw [if_neg (by simp [hbr])] at hb2; exact ⟨_, hb2, h6⟩
    obtain ⟨m1', g1, g2⟩ := f1
    obtain ⟨m2', g3, g4⟩ := f2
    exact hR.apart b b' m1' m2' L1 L2 g1 g3 g2 g4
  · refine ⟨by rw [hS'.n]; exact Nat.le_refl _, rfl, rfl, rfl, by simp, fun x hx ho => ?_, fun x hx => .inl ?_, Nm.le_refl _, fun _ k _ => k, fun b n size row q => .inl (by
      rw [hS'.at_, S.at_put] at q
      by_cases hbr : b = r
      · subst hbr; rw [if_pos ⟨rfl, rfl⟩] at q; simp at q
      · rw [if_neg (by simp [hbr])] at q; exact q)⟩
    · show (w.heap.setIfInBounds L.blk o')[x]? = _
      rw [Array.getElem?_setIfInBounds_ne]
      rintro rfl
      exact ho ⟨r, _, L, ha, rfl, hrL, rfl⟩
    · obtain ⟨b, m, L2, q1, q2, q3, q4⟩ := hx
      rw [hS'.at_, S.at_put] at q1
      by_cases hbr : b = r
      · subst hbr; exact ⟨b, _, L2, ha, rfl, q3, q4⟩
      · rw [if_neg (by simp [hbr])] at q1; exact ⟨b, m, L2, q1, q2, q3, q4⟩
end
end Go.Dee
