/- Dee, part 23: patterns: what is kept of a frame and a state, and what is forgotten. -/
import Derived.Test.YtmopbdalpkcffaaDoorDee22
namespace Go.Dee
open Go Go.RowKit

/-! All names lie below n. -/
mutual
def low (n : Nat) : Value → Bool
  | .pointer (some a) => a.block < n
  | .slice (some a) _ _ => a.block < n
  | .map (some r) => r < n
  | .func f x y => (match f with | .yield l => l < n | _ => true) && lows n x && lows n y
  | .iface _ x => low n x
  | .agg x => lows n x
  | .tuple x => lows n x
  | _ => true
def lows (n : Nat) : Array Value → Bool
  | ⟨x⟩ => lowl n x
def lowl (n : Nat) : List Value → Bool
  | [] => true
  | a :: x => low n a && lowl n x
end

section
variable {ν ν' : Nm} {n : Nat}
theorem ARel.low (hn : ∀ x, x < n → ν' x = ν x) {a b : Addr} (ha : a.block < n) (h : ARel ν a b) : ARel ν' a b := by
  obtain ⟨h1, L, h2, h3⟩ := h
  exact ⟨h1, L, by rw [hn _ ha]; exact h2, h3⟩
theorem FnRel.low (hn : ∀ x, x < n → ν' x = ν x) {f g : Fn} (hf : (match f with | .yield l => decide (l < n) | _ => true) = true) (h : FnRel ν f g) : FnRel ν' f g := by
  cases f <;> simp only [FnRel] at * <;> first | exact h | skip
  obtain ⟨L, e, r⟩ := h
  exact ⟨L, by rw [hn _ (by simpa using hf)]; exact e, r⟩
mutual
theorem VRel.low (hn : ∀ x, x < n → ν' x = ν x) : ∀ {u v : Value}, Dee.low n u = true → VRel ν u v → VRel ν' u v
  | .pointer (some a), v, hl, h => by
    simp only [Dee.low, decide_eq_true_eq] at hl
    obtain ⟨b, k, e⟩ := h
    exact ⟨b, k.low hn hl, e⟩
  | .slice (some a) l c, v, hl, h => by
    simp only [Dee.low, decide_eq_true_eq] at hl
    obtain ⟨b, L, k, e, r⟩ := h
    exact ⟨b, L, k.low hn hl, by rw [hn _ hl]; exact e, r⟩
  | .slice none l c, v, _, h => by simpa only [VRel] using h
  | .map (some r), v, hl, h => by
    simp only [Dee.low, decide_eq_true_eq] at hl
    obtain ⟨L, k, e⟩ := h
    exact ⟨L, by rw [hn _ hl]; exact k, e⟩
  | .chan (some _), _, _, h => by simp [VRel] at h
  | .func f x y, v, hl, h => by
    simp only [Dee.low, Bool.and_eq_true] at hl
    obtain ⟨f', x', y', a, b, c, e⟩ := h
    exact ⟨f', x', y', a.low hn hl.1.1, VRels.low hn hl.1.2 b, VRels.low hn hl.2 c, e⟩
  | .iface t x, v, hl, h => by
    simp only [Dee.low] at hl
    obtain ⟨x', a, e⟩ := h
    exact ⟨x', VRel.low hn hl a, e⟩
  | .agg x, v, hl, h => by
    simp only [Dee.low] at hl
    obtain ⟨x', a, e⟩ := h
    exact ⟨x', VRels.low hn hl a, e⟩
  | .tuple x, v, hl, h => by
    simp only [Dee.low] at hl
    obtain ⟨x', a, e⟩ := h
    exact ⟨x', VRels.low hn hl a, e⟩
  | .bool _, v, _, h => by simpa only [VRel] using h
  | .int _ _, v, _, h => by simpa only [VRel] using h
  | .float _ _, v, _, h => by simpa only [VRel] using h
  | .complex _ _ _, v, _, h => by simpa only [VRel] using h
  | .string _, v, _, h => by simpa only [VRel] using h
  | .pointer none, v, _, h => by simpa only [VRel] using h
  | .map none, v, _, h => by simpa only [VRel] using h
  | .chan none, v, _, h => by simpa only [VRel] using h
  | .nilFunc, v, _, h => by simpa only [VRel] using h
  | .nilIface, v, _, h => by simpa only [VRel] using h
theorem VRels.low (hn : ∀ x, x < n → ν' x = ν x) : ∀ {u v : Array Value}, Dee.lows n u = true → VRels ν u v → VRels ν' u v
  | ⟨x⟩, y, hl, h => by simp only [Dee.lows] at hl; simp only [VRels] at h ⊢; exact VRell.low hn hl h
theorem VRell.low (hn : ∀ x, x < n → ν' x = ν x) : ∀ {u v : List Value}, Dee.lowl n u = true → VRell ν u v → VRell ν' u v
  | [], y, _, h => by simpa only [VRell] using h
  | a :: x, y, hl, h => by
    simp only [Dee.lowl, Bool.and_eq_true] at hl
    obtain ⟨b, y', e, k, r⟩ := h
    exact ⟨b, y', e, VRel.low hn hl.1 k, VRell.low hn hl.2 r⟩
end

/-! Whatever a slot holds has a spelling of its own. -/
def BigOk (ν : Nm) : Prop := ∀ r, ν (BIG + r) = some ⟨r, 0, 0⟩
mutual
theorem VRel.dummy (hb : BigOk ν') : ∀ {u v : Value}, VRel ν u v → ∃ u', VRel ν' u' v
  | .pointer (some a), v, h => by
    obtain ⟨b, ⟨_, L, _, rfl⟩, rfl⟩ := h
    exact ⟨.pointer (some ⟨BIG + L.blk, L.base + a.off, none⟩), _, ⟨rfl, _, hb _, rfl⟩, by simp⟩
  | .slice (some a) l c, v, h => by
    obtain ⟨b, L, ⟨_, L', h1, rfl⟩, h2, rfl⟩ := h
    rw [h2] at h1
    obtain rfl := Option.some.inj h1
    refine ⟨.slice (some ⟨BIG + L.blk, L.base + a.off, none⟩) l (OPEN + (if c < OPEN then c else c - OPEN + L.slack)), _, _, ⟨rfl, _, hb _, rfl⟩, hb _, ?_⟩
    rw [if_neg (by omega : ¬ OPEN + (if c < OPEN then c else c - OPEN + L.slack) < OPEN)]
    simp
  | .slice none l c, v, h => ⟨.slice none l c, by simpa only [VRel] using h⟩
  | .map (some r), v, h => by
    obtain ⟨L, _, rfl⟩ := h
    exact ⟨.map (some (BIG + L.blk)), _, hb _, rfl⟩
  | .chan (some _), _, h => by simp [VRel] at h
  | .func f x y, v, h => by
    obtain ⟨f', x', y', a, b, c, rfl⟩ := h
    obtain ⟨ux, hx⟩ := VRels.dummy hb b
    obtain ⟨uy, hy⟩ := VRels.dummy hb c
    have : ∃ g, FnRel ν' g f' := by
      cases f with
      | yield l => simp only [FnRel] at a; obtain ⟨L, _, rfl⟩ := a; exact ⟨.yield (BIG + L.blk), _, hb _, rfl⟩
      | func i => exact ⟨.func i, by simpa only [FnRel] using a⟩
      | method m => exact ⟨.method m, by simpa only [FnRel] using a⟩
      | methodOf t m => exact ⟨.methodOf t m, by simpa only [FnRel] using a⟩
      | via t p g q => exact ⟨.via t p g q, by simpa only [FnRel] using a⟩
    obtain ⟨g, hg⟩ := this
    exact ⟨.func g ux uy, f', x', y', hg, hx, hy, rfl⟩
  | .iface t x, v, h => by
    obtain ⟨x', a, rfl⟩ := h
    obtain ⟨u, hu⟩ := VRel.dummy hb a
    exact ⟨.iface t u, x', hu, rfl⟩
  | .agg x, v, h => by
    obtain ⟨x', a, rfl⟩ := h
    obtain ⟨u, hu⟩ := VRels.dummy hb a
    exact ⟨.agg u, x', hu, rfl⟩
  | .tuple x, v, h => by
    obtain ⟨x', a, rfl⟩ := h
    obtain ⟨u, hu⟩ := VRels.dummy hb a
    exact ⟨.tuple u, x', hu, rfl⟩
  | .bool b, v, h => ⟨.bool b, by simpa only [VRel] using h⟩
  | .int k i, v, h => ⟨.int k i, by simpa only [VRel] using h⟩
  | .float k i, v, h => ⟨.float k i, by simpa only [VRel] using h⟩
  | .complex k i j, v, h => ⟨.complex k i j, by simpa only [VRel] using h⟩
  | .string s, v, h => ⟨.string s, by simpa only [VRel] using h⟩
  | .pointer none, v, h => ⟨.pointer none, by simpa only [VRel] using h⟩
  | .map none, v, h => ⟨.map none, by simpa only [VRel] using h⟩
  | .chan none, v, h => ⟨.chan none, by simpa only [VRel] using h⟩
  | .nilFunc, v, h => ⟨.nilFunc, by simpa only [VRel] using h⟩
  | .nilIface, v, h => ⟨.nilIface, by simpa only [VRel] using h⟩
theorem VRels.dummy (hb : BigOk ν') : ∀ {u v : Array Value}, VRels ν u v → ∃ u', VRels ν' u' v
  | ⟨x⟩, y, h => by
    simp only [VRels] at h
    obtain ⟨u, hu⟩ := VRell.dummy hb h
    exact ⟨⟨u⟩, hu⟩
theorem VRell.dummy (hb : BigOk ν') : ∀ {u v : List Value}, VRell ν u v → ∃ u', VRell ν' u' v
  | [], y, h => ⟨[], by simpa only [VRell] using h⟩
  | a :: x, y, h => by
    obtain ⟨b, y', rfl, k, r⟩ := h
    obtain ⟨u1, h1⟩ := VRel.dummy hb k
    obtain ⟨u2, h2⟩ := VRell.dummy hb r
    exact ⟨u1 :: u2, b, y', rfl, h1, h2⟩
end
end

/-! Slots that are kept, and what lies in the others. -/
def fill (d : Nat → Value) : Nat → List (Option Value) → List Value
  | _, [] => []
  | i, o :: l => (match o with | some v => v | none => d i) :: fill d (i + 1) l
def mask : List Bool → List Value → List (Option Value)
  | k :: ks, v :: vs => (if k then some v else none) :: mask ks vs
  | _, _ => []
def lowOs (n : Nat) : List (Option Value) → Bool
  | [] => true
  | o :: l => (match o with | some v => low n v | none => true) && lowOs n l

theorem fill_congr {d d' : Nat → Value} : ∀ (l : List (Option Value)) (i : Nat), (∀ j, i ≤ j → d j = d' j) → fill d i l = fill d' i l
  | [], _, _ => rfl
  | o :: l, i, h => by
    simp only [fill]
    rw [fill_congr l (i + 1) fun j hj => h j (by omega), h i (Nat.le_refl _)]
theorem mask_rel {ν ν' : Nm} {n : Nat} (hn : ∀ x, x < n → ν' x = ν x) (hb : BigOk ν') : ∀ (ks : List Bool) (us vs : List Value) (i : Nat), ks.length = us.length → VRell ν us vs → lowOs n (mask ks us) = true →
    ∃ d, VRell ν' (fill d i (mask ks us)) vs
  | [], [], vs, i, _, h, _ => ⟨fun _ => undef, by simpa only [mask, fill, VRell] using h⟩
  | [], _ :: _, _, _, hl, _, _ => by simp at hl
  | _ :: _, [], _, _, hl, _, _ => by simp at hl
  | k :: ks, u :: us, vs, i, hl, h, hlow => by
    obtain ⟨v, vs', rfl, hv, hr⟩ := h
    simp only [mask, lowOs, Bool.and_eq_true] at hlow
    obtain ⟨d, hd⟩ := mask_rel hn hb ks us vs' (i + 1) (by simpa using hl) hr hlow.2
    cases k with
    | true =>
      exact ⟨d, v, vs', rfl, VRel.low hn (by simpa using hlow.1) hv, hd⟩
    | false =>
      obtain ⟨u', hu'⟩ := VRel.dummy hb hv
      refine ⟨fun j => if j = i then u' else d j, v, vs', rfl, ?_, ?_⟩
      · simpa using hu'
      · rw [fill_congr _ _ (d' := d) fun j hj => by rw [if_neg (by omega)]]
        exact hd

/-! The blocks that are kept. -/
inductive BD where
  | cells (c : List Value) (e : TypeId) (m : BMode) (fz : Nat × Nat)
  | rows (n size : Nat) (row : Nat → Nat → XV)
def BD.t : BD → T KV
  | .cells c e m fz => blk c e m fz
  | .rows n size row => .n .e (some (.hd (.rows n size row))) .e
abbrev BDs := List (Nat × BD)
def mkH : T (T KV) → BDs → T (T KV)
  | h, [] => h
  | h, (b, d) :: l => mkH (h.set b d.t) l
/-- The state that has just these blocks. -/
def mkS (n : Nat) (l : BDs) : S := { h := mkH .e l, n, on := false, log := [] }
def readL (s : S) (b : Nat) : Nat → Nat → Option (List Value)
  | 0, _ => some []
  | k + 1, i => match s.at b (i + 1) with
    | some (.val v) => match readL s b k (i + 1) with
      | some l => some (v :: l)
      | none => none
    | _ => none
def dumpB (s : S) (b : Nat) : Option BD := match s.at b 0 with
  | some (.hd (.cells len e m fz)) => match readL s b len 0 with
    | some c => some (.cells c e m fz)
    | none => none
  | some (.hd (.rows n size row)) => some (.rows n size row)
  | _ => none
def dump (s : S) : List Nat → Option BDs
  | [] => some []
  | b :: l => match dumpB s b with
    | some d => match dump s l with
      | some r => some ((b, d) :: r)
      | none => none
    | none => none
def lowB (n : Nat) : BD → Bool
  | .cells c _ _ _ => lowl n c
  | .rows _ _ _ => true

theorem mkH_get : ∀ (l : BDs) (h : T (T KV)) (b : Nat) (t : T KV), (mkH h l).get b = some t → (∃ d, (b, d) ∈ l ∧ t = d.t) ∨ h.get b = some t
  | [], h, b, t, k => .inr k
  | (x, d) :: l, h, b, t, k => by
    rw [mkH] at k
    rcases mkH_get l _ b t k with ⟨d', h1, h2⟩ | k'
    · exact .inl ⟨d', List.mem_cons_of_mem _ h1, h2⟩
    · rw [T.get_set] at k'
      split at k'
      · rename_i e
        subst e
        exact .inl ⟨d, by simp, (Option.some.inj k').symm⟩
      · exact .inr k'
theorem mkS_at {n : Nat} {l : BDs} {b j : Nat} {x : KV} (h : (mkS n l).at b j = some x) : ∃ d, (b, d) ∈ l ∧ d.t.get j = some x := by
  simp only [S.at, mkS] at h
  cases hg : (mkH .e l).get b with
  | none => rw [hg] at h; simp at h
  | some t =>
    rw [hg] at h
    simp only [Option.bind_some] at h
    rcases mkH_get l _ b t hg with ⟨d, h1, rfl⟩ | k
    · exact ⟨d, h1, h⟩
    · simp [T.get] at k
theorem readL_spec {s : S} {b : Nat} : ∀ (k i : Nat) (l : List Value), readL s b k i = some l → l.length = k ∧ ∀ (j : Nat) (v : Value), l[j]? = some v → s.at b (i + j + 1) = some (.val v)
  | 0, i, l, h => by
    simp only [readL, Option.some.injEq] at h
    subst h
    exact ⟨rfl, fun j v hv => by simp at hv⟩
  | k + 1, i, l, h => by
    simp only [readL] at h
    split at h
    case h_2 => simp at h
    rename_i v hv
    split at h
    case h_2 => simp at h
    rename_i r hr
    simp only [Option.some.injEq] at h
    subst h
    obtain ⟨h1, h2⟩ := readL_spec k (i + 1) r hr
    refine ⟨by simp [h1], fun j u hu => ?_⟩
    cases j with
    | zero => simp at hu; subst hu; exact hv
    | succ j =>
      have := h2 j u (by simpa using hu)
      rw [show i + (j + 1) + 1 = i + 1 + j + 1 from by omega]
      exact this
theorem dumpB_spec {s : S} {b : Nat} {d : BD} (h : dumpB s b = some d) : ∀ j x, d.t.get j = some x → s.at b j = some x := by
  intro j x hx
  unfold dumpB at h
  split at h
  · rename_i len e m fz hd
    split at h
    case h_2 => simp at h
    rename_i c hc
    simp only [Option.some.injEq] at h
    subst h
    obtain ⟨h1, h2⟩ := readL_spec _ _ _ hc
    cases j with
    | zero =>
      simp only [BD.t] at hx
      rw [blk_get_zero, h1] at hx
      rw [hd]; exact hx
    | succ j =>
      simp only [BD.t] at hx
      rw [blk_get_succ] at hx
      cases hv : c[j]? with
      | none => rw [hv] at hx; simp at hx
      | some v =>
        rw [hv] at hx
        have := h2 j v hv
        rw [Nat.zero_add] at this
        rw [this]; exact hx
  · rename_i n size row hd
    simp only [Option.some.injEq] at h
    subst h
    simp only [BD.t, T.get] at hx
    split at hx
    · rename_i hj
      subst hj
      rw [hd]; exact hx
    · split at hx <;> simp at hx
  · simp at h
theorem dump_spec {s : S} : ∀ (l : List Nat) (r : BDs), dump s l = some r → ∀ b d, (b, d) ∈ r → dumpB s b = some d
  | [], r, h, b, d, hm => by
    simp only [dump, Option.some.injEq] at h
    subst h; simp at hm
  | x :: l, r, h, b, d, hm => by
    simp only [dump] at h
    split at h
    case h_2 => simp at h
    rename_i d' hd
    split at h
    case h_2 => simp at h
    rename_i r' hr
    simp only [Option.some.injEq] at h
    subst h
    simp only [List.mem_cons, Prod.mk.injEq] at hm
    rcases hm with ⟨rfl, rfl⟩ | hm
    · exact hd
    · exact dump_spec l r' hr b d hm
/-- s has these blocks, and all their names lie below n. -/
def Has (s : S) (n : Nat) (l : BDs) : Prop := ∀ b d, (b, d) ∈ l → b < n ∧ lowB n d = true ∧ ∀ j x, d.t.get j = some x → s.at b j = some x
theorem lowl_get {n : Nat} : ∀ {c : List Value} {i : Nat} {v : Value}, lowl n c = true → c[i]? = some v → low n v = true
  | [], i, v, _, h => by simp at h
  | a :: c, i, v, hl, h => by
    simp only [lowl, Bool.and_eq_true] at hl
    cases i with
    | zero => simp at h; subst h; exact hl.1
    | succ i => exact lowl_get hl.2 (by simpa using h)
theorem lowB_get {n : Nat} {d : BD} (h : lowB n d = true) {j : Nat} {x : KV} (hx : d.t.get j = some x) : (∀ v, x = .val v → low n v = true) ∧ ∀ o, x ≠ .hd (.obj o) := by
  cases d with
  | cells c e m fz =>
    simp only [BD.t] at hx
    cases j with
    | zero =>
      rw [blk_get_zero] at hx
      have := Option.some.inj hx
      subst this
      exact ⟨fun v hv => by simp at hv, fun o ho => by simp at ho⟩
    | succ j =>
      rw [blk_get_succ] at hx
      cases hv : c[j]? with
      | none => rw [hv] at hx; simp at hx
      | some v =>
        rw [hv] at hx
        have := Option.some.inj hx
        subst this
        exact ⟨fun u hu => by injection hu with hu; subst hu; exact lowl_get h hv, fun o ho => by simp at ho⟩
  | rows m size row =>
    simp only [BD.t, T.get] at hx
    split at hx
    · have := Option.some.inj hx
      subst this
      exact ⟨fun v hv => by simp at hv, fun o ho => by simp at ho⟩
    · split at hx <;> simp at hx
theorem Has.at {s : S} {n : Nat} {l : BDs} (h : Has s n l) {b j : Nat} {x : KV} (k : (mkS n l).at b j = some x) : b < n ∧ s.at b j = some x ∧ (∀ v, x = .val v → low n v = true) ∧ ∀ o, x ≠ .hd (.obj o) := by
  obtain ⟨d, h1, h2⟩ := mkS_at k
  obtain ⟨a, b', c⟩ := h b d h1
  exact ⟨a, c j x h2, lowB_get b' h2⟩

/-- What is kept of a name's meaning. -/
def Nm.cut (ν : Nm) (n : Nat) : Nm := fun x => if x < n then ν x else if BIG ≤ x then some ⟨x - BIG, 0, 0⟩ else none
theorem Nm.cut_low (ν : Nm) {n x : Nat} (h : x < n) : ν.cut n x = ν x := by simp [Nm.cut, h]
theorem Nm.cut_big (ν : Nm) {n : Nat} (h : n ≤ BIG) : BigOk (ν.cut n) := fun r => by
  simp only [Nm.cut]
  rw [if_neg (by omega), if_pos (by omega), Nat.add_sub_cancel_left]
theorem Nm.cut_fresh (ν : Nm) (n : Nat) : Fresh (ν.cut n) n BIG := fun b h1 h2 => by
  simp only [Nm.cut]
  rw [if_neg (by omega), if_neg (by omega)]

section
variable {P : Program} {ν : Nm} {s : S} {w : World} {n : Nat} {l : BDs}
theorem Own.cut (hl : Has s n l) {r : Nat} (h : Own (ν.cut n) (mkS n l) r) : Own ν s r := by
  obtain ⟨b, m, L, h1, h2, h3, h4⟩ := h
  obtain ⟨hb, hat, _⟩ := hl.at h1
  rw [Nm.cut_low ν hb] at h3
  exact ⟨b, m, L, hat, h2, h3, h4⟩
theorem R.cut (hR : R P ν s w) (hl : Has s n l) : R P (ν.cut n) (mkS n l) w where
  blk := fun b m hb hm => by
    obtain ⟨hbl, hat, hget⟩ := hl.at hb
    obtain ⟨L, hL, hB⟩ := hR.blk b m hat hm
    have hn : ∀ x, x < n → (ν.cut n) x = ν x := fun x hx => Nm.cut_low ν hx
    refine ⟨L, by rw [hn b hbl]; exact hL, ?_⟩
    cases m with
    | dead => trivial
    | rows n size row => trivial
    | obj o => exact absurd rfl (hget.2 o)
    | cells len e m fz =>
      obtain ⟨rc, re, rf, a, c, d, f, g, i⟩ := hB
      refine ⟨rc, re, rf, a, c, fun i v hi hv hv2 => ?_, f, g, i⟩
      obtain ⟨_, hat', hget'⟩ := hl.at hv
      obtain ⟨v', p, q⟩ := d i v hi hat' hv2
      exact ⟨v', p, VRel.low hn (hget'.1 v rfl) q⟩
  apart := fun b b' m m' L L' h1 h2 h3 h4 h5 h6 hne => by
    obtain ⟨hb, hat, _⟩ := hl.at h1
    obtain ⟨hb', hat', _⟩ := hl.at h2
    rw [Nm.cut_low ν hb] at h5
    rw [Nm.cut_low ν hb'] at h6
    exact hR.apart b b' m m' L L' hat hat' h3 h4 h5 h6 hne
theorem Ctx.cut {E : Env} {c : Start} (h : Ctx E c ν s w) (hl : Has s n l) (hG : E.P.globals.size < n) : Ctx E c (ν.cut n) (mkS n l) w where
  g := fun g hg => by rw [Nm.cut_low ν (by omega)]; exact h.g g hg
  since := ⟨h.since.os, h.since.tape, h.since.output, h.since.size, h.since.keep, fun r o => h.since.own r (o.cut hl)⟩
  rows := fun b m size row hb => by
    obtain ⟨hbl, hat, _⟩ := hl.at hb
    obtain ⟨L, p, q⟩ := h.rows b m size row hat
    exact ⟨L, by rw [Nm.cut_low ν hbl]; exact p, q.mono fun r f => ⟨⟨f.1, fun o => f.2 (o.cut hl)⟩, rfl⟩⟩
end

/-! The pattern that frame and world stand to. -/
def PatAt (E : Env) (c : Start) (sl : List (Option Value)) (s : S) (b : Act) (w : World) : Prop :=
  ∃ d ν, Ctx E c ν s w ∧ R E.P ν s w ∧ TRel ν ⟨(fill d 0 sl).toArray, []⟩ b ∧ Fresh ν s.n BIG

def viewOk (P : Program) (ks : List Bool) (n : Nat) (l : BDs) (a : Act) (s : S) : Bool :=
  a.defers.isEmpty && s.n ≤ BIG && n ≤ s.n && P.globals.size < n && l.all (fun x => x.1 < n && lowB n x.2) && ks.length = a.tmps.toList.length && lowOs n (mask ks a.tmps.toList)
def view (P : Program) (ks : List Bool) (n : Nat) (l : List Nat) (r : Option ((Ex × Act) × S)) : Option (Ex × List (Option Value) × BDs × List Prop) := match r with
  | some ((e, a), s) => match dump s l with
    | some d => if viewOk P ks n d a s then some (e, mask ks a.tmps.toList, d, s.obl) else none
    | none => none
  | none => none

def ExPost (Q : Exit → Act → World → Prop) (b : Act) (w : World) : Ex → Prop
  | .norm => Q .normal b w
  | .exit id => Q (.exit id) b w
  | .ret => Q .ret b w
  | _ => False

section
variable {E E' : Env} {c : Start} {sl : List (Option Value)} {s : S} {b : Act} {w : World}
theorem PatAt.said (h : PatAt E c sl s b w) (sy : List (Nat × Bool)) : PatAt E c sl { s with say := sy } b w := by
  obtain ⟨d, ν, h1, h2, h3, h4⟩ := h
  have k : Same s { s with say := sy } := ⟨fun _ _ => rfl, rfl⟩
  exact ⟨d, ν, h1.same k, h2.same k, h3, h4⟩
/-- A piece of code, run from the pattern. -/
theorem PatAt.seg (hE : E.Ok c) (hoff : E'.off = true) (hP : E'.P = E.P) (ho : OrcRf E E') (h : PatAt E c sl s b w) (sy : List (Nat × Bool)) (ks : List Bool) (n : Nat) (l : List Nat) {k : Nat} {code : Code} {e : Ex} {sl' : List (Option Value)} {bs : BDs} {obl : List Prop}
    (hv : ∀ d fn, view E.P ks n l (exec E' k fn none code ⟨(fill d 0 sl).toArray, []⟩ { s with say := sy }) = some (e, sl', bs, obl)) (hh : ∀ o ∈ obl, o) {Q : Exit → Act → World → Prop}
    (hQ : ∀ b' w', PatAt E c sl' (mkS n bs) b' w' → ExPost Q b' w' e) : code.wp E.P Q b w := by
  obtain ⟨d, ν, h1, h2, h3, h4⟩ := h.said sy
  refine dee_wp hE hoff hP ho (k := k) h1 h2 h3 h4 fun fn => ?_
  have hv := hv d fn
  unfold view at hv
  split at hv
  case h_2 => simp at hv
  rename_i e1 a1 t1 hx
  split at hv
  case h_2 => simp at hv
  rename_i bs' hbs
  split at hv
  case isFalse => simp at hv
  rename_i hok
  simp only [Option.some.injEq, Prod.mk.injEq] at hv
  obtain ⟨rfl, rfl, rfl, rfl⟩ := hv
  simp only [viewOk, Bool.and_eq_true, List.isEmpty_iff, decide_eq_true_eq, List.all_eq_true] at hok
  obtain ⟨⟨⟨⟨⟨⟨k1, k2⟩, k3⟩, k4⟩, k5⟩, k6⟩, k7⟩ := hok
  have hHas : Has t1 n bs' := fun b d hm => ⟨(k5 _ hm).1, (k5 _ hm).2, dumpB_spec (dump_spec _ _ hbs b d hm)⟩
  refine ⟨e1, a1, t1, hx, hh, k2, fun ν' w' b' hp hT => ?_⟩
  have hn : ∀ x, x < n → (ν'.cut n) x = ν' x := fun x hx => Nm.cut_low ν' hx
  obtain ⟨d', hd'⟩ := mask_rel hn (ν'.cut_big (n := n) (by omega)) ks a1.tmps.toList b'.tmps.toList 0 k6 hT.1.toList k7
  have hT' : TRel (ν'.cut n) ⟨(fill d' 0 (mask ks a1.tmps.toList)).toArray, []⟩ b' := by
    refine ⟨?_, ?_⟩
    · exact hd'
    · have := hT.2; rw [k1] at this; exact this
  have hq := hQ b' w' ⟨d', ν'.cut n, (h1.step hp.2).cut hHas k4, hp.1.cut hHas, hT', Nm.cut_fresh _ _⟩
  cases e1 <;> exact hq

/-- The end of a function. -/
def isEnd : Ex → Bool
  | .norm | .ret => true
  | _ => false
def retView (P : Program) (fn : Func) (r : Option ((Ex × Act) × S)) : Option (Value × List Prop) := match r with
  | some ((e, a), s) => if a.defers.isEmpty && s.n ≤ BIG && isEnd e then (match embV P (results fn a.tmps) s with
    | some (v, s') => if noAddr v && s'.n ≤ BIG then some (v, s.obl) else none
    | none => none) else none
  | none => none
theorem PatAt.ret (hE : E.Ok c) (hoff : E'.off = true) (hP : E'.P = E.P) (ho : OrcRf E E') (h : PatAt E c sl s b w) (sy : List (Nat × Bool)) (fn : Func) {k : Nat} {code : Code} {v : Value} {obl : List Prop}
    (hv : ∀ d f, retView E.P fn (exec E' k f none code ⟨(fill d 0 sl).toArray, []⟩ { s with say := sy }) = some (v, obl)) (hh : ∀ o ∈ obl, o) {Q : Ending → World → Prop}
    (hQ : ∀ ν' s' w', Ctx E c ν' s' w' → Q (.returned v) w') : code.wp E.P (bodyPost E.P fn Q) b w := by
  obtain ⟨d, ν, h1, h2, h3, h4⟩ := h.said sy
  refine dee_wp hE hoff hP ho (k := k) h1 h2 h3 h4 fun f => ?_
  have hv := hv d f
  unfold retView at hv
  split at hv
  case h_2 => simp at hv
  rename_i e1 a1 t1 hx
  split at hv
  case isFalse => simp at hv
  rename_i hok
  split at hv
  case h_2 => simp at hv
  rename_i v1 t2 hr
  split at hv
  case isFalse => simp at hv
  rename_i hok2
  simp only [Option.some.injEq, Prod.mk.injEq] at hv
  obtain ⟨rfl, rfl⟩ := hv
  simp only [Bool.and_eq_true, List.isEmpty_iff, decide_eq_true_eq] at hok hok2
  obtain ⟨⟨k1, k2⟩, k3⟩ := hok
  refine ⟨e1, a1, t1, hx, hh, k2, fun ν' w' b' hp hT => ?_⟩
  have hg := h1.step hp.2
  have hF : Fresh ν' t1.n t2.n := by
    have := h4.later hp.2 k2
    exact this.sub (Nat.le_refl _) hok2.2
  obtain ⟨ν1, v', w1, r1, hR1, hF1, hvr⟩ := SimM.of (Sim.results hg.g fn hT.1) ν' (Nm.le_refl _) t1 w' v1 _ hp.1 hr hF
  have hw := Quiet.results fn b'.tmps w' v' w1 r1
  subst hw
  have hdef : b'.defers = [] := by have := hT.2; rw [k1] at this; exact this
  have hvv := noAddr_eq hok2.1 hvr
  subst hvv
  have := hQ ν1 t2 w1 (hg.step hF1)
  cases e1 <;> first | exact ⟨hdef, v', r1, this⟩ | (exact absurd k3 (by simp [isEnd]))
end
end Go.Dee
