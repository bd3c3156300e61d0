/- Dee, part 15: soundness of drawn regions. -/
import Derived.Test.YtmopbdalpkcffaaDoorDee14
namespace Go.Dee
open Go

/-- As Fr, where the new names lie somewhere between two bounds. -/
structure FrX (lo hi : Nat) (ν : Nm) (s : S) (w : World) (ν' : Nm) (s' : S) (w' : World) : Prop where
  os : w'.os = w.os
  tape : w'.tape = w.tape
  output : w'.output = w.output
  size : w.heap.size ≤ w'.heap.size
  keep : ∀ r, r < w.heap.size → ¬ Own ν s r → w'.heap[r]? = w.heap[r]?
  own : ∀ r, Own ν' s' r → Own ν s r ∨ w.heap.size ≤ r
  ext : ν.le ν'
  dom : ∀ b, ν b = none → (b < lo ∨ hi ≤ b) → ν' b = none
  rows : RowsKept s ν' s' w'

theorem FrX.foot {lo hi : Nat} {ν ν' : Nm} {s s' : S} {w w' : World} (h : FrX lo hi ν s w ν' s' w') : ∀ r, Foot ν s w r → Foot ν' s' w' r ∧ w'.heap[r]? = w.heap[r]? := fun r k =>
  ⟨⟨Nat.lt_of_lt_of_le k.1 h.size, fun o => by rcases h.own r o with q | q; exact k.2 q; have := k.1; omega⟩, h.keep r k.1 k.2⟩
theorem Fr.toX {ν ν' : Nm} {s s' : S} {w w' : World} {lo hi : Nat} (h : Fr ν s w ν' s' w') (h1 : lo ≤ s.n) (h2 : s'.n ≤ hi) : FrX lo hi ν s w ν' s' w' :=
  ⟨h.os, h.tape, h.output, h.size, h.keep, h.own, h.ext, fun b hb hr => h.dom b hb (by omega), h.rows⟩
theorem FrX.toFr {ν ν' : Nm} {s s' : S} {w w' : World} (h : FrX s.n s'.n ν s w ν' s' w') (hn : s.n ≤ s'.n) : Fr ν s w ν' s' w' :=
  ⟨hn, h.os, h.tape, h.output, h.size, h.keep, h.own, h.ext, h.dom, h.rows⟩
theorem FrX.refl (lo hi : Nat) (ν : Nm) (s : S) (w : World) : FrX lo hi ν s w ν s w := ⟨rfl, rfl, rfl, Nat.le_refl _, fun _ _ _ => rfl, fun _ h => .inl h, Nm.le_refl _, fun _ h _ => h, fun _ _ _ _ h => .inl h⟩
theorem FrX.trans {lo hi : Nat} {ν ν' ν'' : Nm} {s s' s'' : S} {w w' w'' : World} (h : FrX lo hi ν s w ν' s' w') (k : FrX lo hi ν' s' w' ν'' s'' w'') : FrX lo hi ν s w ν'' s'' w'' where
  os := k.os.trans h.os
  tape := k.tape.trans h.tape
  output := k.output.trans h.output
  size := Nat.le_trans h.size k.size
  keep := fun r hr ho => by
    rw [k.keep r (Nat.lt_of_lt_of_le hr h.size) (fun o => by rcases h.own r o with o | o; exact ho o; omega), h.keep r hr ho]
  own := fun r o => by
    rcases k.own r o with o | o
    · exact h.own r o
    · have := h.size; exact .inr (by omega)
  ext := Nm.le_trans h.ext k.ext
  dom := fun b hb hr => k.dom b (h.dom b hb hr) hr
  rows := fun b n size row hb => by
    rcases k.rows b n size row hb with q | q
    · rcases h.rows b n size row q with q | ⟨L, p, q⟩
      · exact .inl q
      · exact .inr ⟨L, k.ext _ _ p, q.mono k.foot⟩
    · exact .inr q
theorem Own.at {ν : Nm} {s s' : S} {r : Nat} (h : ∀ b j, s'.at b j = s.at b j) (k : Own ν s' r) : Own ν s r := by
  obtain ⟨b, m, L, h1, h2, h3, h4⟩ := k
  exact ⟨b, m, L, (h b 0) ▸ h1, h2, h3, h4⟩
theorem FrX.at {lo hi : Nat} {ν ν' : Nm} {s s' s'' : S} {w w' : World} (h : FrX lo hi ν s w ν' s' w') (k : ∀ b j, s''.at b j = s'.at b j) : FrX lo hi ν s w ν' s'' w' :=
  ⟨h.os, h.tape, h.output, h.size, h.keep, fun r o => h.own r (o.at k), h.ext, h.dom, fun b n size row hb => by
    rcases h.rows b n size row (by rw [← k]; exact hb) with q | ⟨L, p, q⟩
    · exact .inl q
    · exact .inr ⟨L, p, q.mono fun r f => ⟨⟨f.1, fun o => f.2 (o.at k)⟩, rfl⟩⟩⟩
theorem R.at {P : Program} {ν : Nm} {s s' : S} {w : World} (h : R P ν s w) (k : ∀ b j, s'.at b j = s.at b j) : R P ν s' w :=
  R.same (s := { s with n := s'.n }) ⟨k, rfl⟩ ⟨h.blk, h.apart⟩

theorem schedule_mode (P : Program) (ops : Array Oper) (t : Nat) : ∃ m ∈ modesOf P ops, ∃ t', Region.schedule (P.follows .mixedOrders) ops t = Region.linearise m ops t' := by
  unfold Region.schedule modesOf
  by_cases h : (P.follows .mixedOrders || !Region.departs ops) = true
  · rw [if_pos h, if_pos h]
    exact ⟨.any, by simp, t, rfl⟩
  · rw [if_neg h, if_neg h]
    by_cases h2 : (t % 2 == 0) = true
    · exact ⟨.text, by simp, t / 2, by rw [if_pos h2]⟩
    · exact ⟨.gc, by simp, t / 2, by rw [if_neg h2]⟩

def unlisted (n : Nat) (listed : Array Bool) : List Nat := (List.range n).filter fun i => !listed.getD i true
theorem unlisted_set {n j : Nat} {listed : Array Bool} (hj : j < n) (hl : listed.getD j true = false) (hs : listed.size = n) : (unlisted n (listed.setIfInBounds j true)).length < (unlisted n listed).length := by
  have h1 : unlisted n (listed.setIfInBounds j true) = (unlisted n listed).filter fun i => !(listed.setIfInBounds j true).getD i true := by
    unfold unlisted
    rw [List.filter_filter]
    refine List.filter_congr fun i _ => ?_
    by_cases e : j = i
    · subst e
      have : (listed.setIfInBounds j true).getD j true = true := by simp [hs, hj]
      rw [this]; simp
    · rw [getD_set_ne true e]; simp
  rw [h1]
  refine List.length_filter_lt_length_iff_exists.2 ⟨j, ?_, ?_⟩
  · exact List.mem_filter.2 ⟨List.mem_range.2 hj, by rw [hl]; rfl⟩
  · have : (listed.setIfInBounds j true).getD j true = true := by simp [hs, hj]
    rw [this]; simp

section
variable {E : Env} {c : Start} {k : Nat} {ops : Array Oper} {a a' : Act} {s s' : S} (t : Trace E k ops (List.range ops.size) a s a' s') {m : Region.Mode}

theorem draw_go (hE : E.Ok c) (ih : ∀ k', k' < k → Snd E c (fns E k')) (hap : allApart (aheadOf m ops.toList []) [] ((List.range ops.size).map t.row) = true) (hord : ordOk m ops = true)
    (fn : FuncId) (kd : CallKind) (ro : Option Nat) (kk : List Item) (cs : List Frame) :
    ∀ (fuel t' : Nat) (listed : Array Bool) (y : S) (b : Act), (unlisted ops.size listed).length ≤ fuel → Inv t listed y b →
      (∀ j o, ops[j]? = some o → listed.getD j false = true → ∀ e ∈ onOf m o, listed.getD e false = true) →
      ∀ (ν : Nm) (w : World) (B : Act), Ctx E c ν y w → R E.P ν y w → TRel ν b B → (∀ j, j < ops.size → listed.getD j true = false → Fresh ν (t.X j).n (t.X (j + 1)).n) →
      ∃ ν' w' B', Steps E.P (lone (fat fn kd ro B (.inRegion ops (Region.linearise.go m ops fuel t' listed []) :: kk)) cs w) (lone (fat fn kd ro B' kk) cs w') ∧
        R E.P ν' s' w' ∧ FrX s.n s'.n ν y w ν' s' w' ∧ TRel ν' a' B' := by
  -- all is done
  have fin : ∀ (listed : Array Bool) (y : S) (b : Act), Inv t listed y b → (∀ i, i < ops.size → listed.getD i true = true) → ∀ (ν : Nm) (w : World) (B : Act), R E.P ν y w → TRel ν b B →
      ∃ ν' w' B', Steps E.P (lone (fat fn kd ro B (.inRegion ops [] :: kk)) cs w) (lone (fat fn kd ro B' kk) cs w') ∧
        R E.P ν' s' w' ∧ FrX s.n s'.n ν y w ν' s' w' ∧ TRel ν' a' B' := by
    intro listed y b hinv hall ν w B hR hT
    obtain ⟨rfl, hat⟩ := hinv.done t hE.lcl hall
    exact ⟨ν, w, B, .one m_regionEnd, hR.at (fun b j => (hat b j).symm), (FrX.refl _ _ _ _ _).at (fun b j => (hat b j).symm), hT⟩
  have noready : ∀ (listed : Array Bool), listed.size = ops.size → Region.ready m ops listed = [] → ∀ i, i < ops.size → listed.getD i true = true := by
    intro listed hsz hr i hi
    rcases Bool.eq_false_or_eq_true (listed.getD i true) with h | h
    · exact h
    · exact absurd hr (ready_some hsz hord ⟨i, hi, h⟩)
  intro fuel
  induction fuel with
  | zero =>
    intro t' listed y b hu hinv hcl ν w B hg hR hT hF
    refine fin listed y b hinv (fun i hi => ?_) ν w B hR hT
    have h0 : unlisted ops.size listed = [] := List.length_eq_zero_iff.1 (by omega)
    have := List.filter_eq_nil_iff.1 h0 i (List.mem_range.2 hi)
    simpa using this
  | succ fuel IH =>
    intro t' listed y b hu hinv hcl ν w B hg hR hT hF
    simp only [Region.linearise.go]
    change ∃ ν' w' B', Steps E.P (lone (fat fn kd ro B (.inRegion ops (match (Region.ready m ops listed)[t' % (Region.ready m ops listed).length]? with
      | some i => Region.linearise.go m ops fuel (t' / (Region.ready m ops listed).length) (listed.setIfInBounds i true) [i]
      | none => [].reverse) :: kk)) cs w) (lone (fat fn kd ro B' kk) cs w') ∧ R E.P ν' s' w' ∧ FrX s.n s'.n ν y w ν' s' w' ∧ TRel ν' a' B'
    cases hi : (Region.ready m ops listed)[t' % (Region.ready m ops listed).length]? with
    | none =>
      have hnil : Region.ready m ops listed = [] := by
        cases hr : Region.ready m ops listed with
        | nil => rfl
        | cons x xs =>
          rw [hr] at hi
          have hlt : t' % (x :: xs).length < (x :: xs).length := Nat.mod_lt _ (by simp)
          simp at hi
          simp at hlt
          omega
      exact fin listed y b hinv (noready listed hinv.size hnil) ν w B hR hT
    | some j =>
      simp only []
      rw [linearise_go_acc, List.reverse_singleton, List.singleton_append]
      have hj := List.mem_of_getElem? hi
      obtain ⟨hun, o, ho, hall⟩ := mem_ready.1 hj
      have hjn : j < ops.size := (Array.getElem?_eq_some_iff.1 ho).1
      have hoj : o = t.O j := by have := t.oper hjn; rw [ho] at this; exact Option.some.inj this
      subst hoj
      obtain ⟨hsame, k', hk', y', hop, hy', hinv'⟩ := hinv.pick t hE.lcl hap hcl hj
      have hcl' : ∀ j' o, ops[j']? = some o → (listed.setIfInBounds j true).getD j' false = true → ∀ e ∈ onOf m o, (listed.setIfInBounds j true).getD e false = true := by
        intro j' o' ho' hl e he
        by_cases q : j' = j
        · subst q
          rw [ho] at ho'
          obtain rfl := Option.some.inj ho'
          obtain ⟨e', h1, h2, h3⟩ := onOf_spec he
          exact h3 ▸ getD_set_true (hall e' h1 h2)
        · rw [getD_set_ne false (Ne.symm q)] at hl
          exact getD_set_true (hcl j' o' ho' hl e he)
      have hu' : (unlisted ops.size (listed.setIfInBounds j true)).length ≤ fuel := by
        have := unlisted_set hjn hun hinv.size
        omega
      have mono := t.mono hE.lcl
      have hFj : Fresh ν (t.X j).n (t.X (j + 1)).n := hF j hjn hun
      have hRy : R E.P ν { y with n := (t.X j).n, on := true, log := [] } w := ⟨hR.blk, hR.apart⟩
      have hgy : Ctx E c ν { y with n := (t.X j).n, on := true, log := [] } w := ⟨hg.g, ⟨hg.since.os, hg.since.tape, hg.since.output, hg.since.size, hg.since.keep, hg.since.own⟩, hg.rows⟩
      -- one step
      have one : ∃ ν1 w1 v', Post E.P ν { y with n := (t.X j).n, on := true, log := [] } w ν1 y' w1 ∧ VRel ν1 (t.V j) v' ∧
          Steps E.P (lone (fat fn kd ro B (.inRegion ops (j :: Region.linearise.go m ops fuel (t' / (Region.ready m ops listed).length) (listed.setIfInBounds j true) []) :: kk)) cs w)
            (lone (fat fn kd ro (B.put (t.O j).dst v') (.inRegion ops (Region.linearise.go m ops fuel (t' / (Region.ready m ops listed).length) (listed.setIfInBounds j true) []) :: kk)) cs w1) := by
        unfold opAt at hop
        have hwr := wanted_rel hT ops (t.O j)
        split at hop
        · rename_i hw
          rw [← hwr] at hw
          obtain ⟨ν1, w1, hp, v', hv, hs⟩ := (ih k' hk').runOp (t.O j) b _ _ y' hop ν w B ro fn kd kk cs ops j (Region.linearise.go m ops fuel (t' / (Region.ready m ops listed).length) (listed.setIfInBounds j true) []) hgy hRy hT (by rw [hy']; exact hFj) ho hw (.inr (t.nd j (by simpa using hjn)))
          exact ⟨ν1, w1, v', hp, hv, hs⟩
        · rename_i hw
          rw [← hwr] at hw
          obtain ⟨h1, h2⟩ := pure_some hop
          subst h2
          injection h1 with h1
          exact ⟨ν, w, undef, .refl hRy, by rw [h1]; exact undef_rel, .one (m_opSkip ho (by simpa using hw))⟩
      obtain ⟨ν1, w1, v', hp, hv, hs⟩ := one
      obtain ⟨ν2, w2, B2, hs2, hR2, hF2, hT2⟩ := IH (t' / (Region.ready m ops listed).length) (listed.setIfInBounds j true) y' (b.put (t.O j).dst (t.V j)) hu' hinv' hcl' ν1 w1 (B.put (t.O j).dst v') (hgy.step hp.2) hp.1 ((hT.mono hp.2.ext).put _ hv) (fun j' hj' hl => by
        have hne : j ≠ j' := by
          intro e
          subst e
          have : (listed.setIfInBounds j true).getD j true = true := by simp [hinv.size, hjn]
          rw [this] at hl; simp at hl
        rw [getD_set_ne true hne] at hl
        intro q h1 h2
        refine hp.2.dom q (hF j' hj' hl q h1 h2) ?_
        rw [hy']
        rcases Nat.lt_or_ge j j' with r | r
        · right; have := mono (j + 1) j' (by omega) (by omega); omega
        · left; have := mono (j' + 1) j (by omega) (by omega); show q < (t.X j).n; omega)
      refine ⟨ν2, w2, B2, hs.trans hs2, hR2, ?_, hT2⟩
      have hlo : s.n ≤ (t.X j).n := by have := mono 0 j (by omega) (by omega); rw [t.x0] at this; exact this
      have hhi : (t.X (j + 1)).n ≤ s'.n := by have := mono (j + 1) ops.size (by omega) (Nat.le_refl _); have e := t.xn; rw [List.length_range] at e; rw [e] at this; exact this
      have hX : FrX s.n s'.n ν y w ν1 y' w1 := by
        have := hp.2.toX (lo := s.n) (hi := s'.n) hlo (by rw [hy']; exact hhi)
        exact ⟨this.os, this.tape, this.output, this.size, this.keep, this.own, this.ext, this.dom, this.rows⟩
      exact hX.trans hF2

theorem snd_draw (hE : E.Ok c) (ih : ∀ k', k' < k → Snd E c (fns E k')) {rows : List Row} (hrun : (fns E k).drawOps ops (List.range ops.size) a [] s = some ((a', rows), s'))
    (hord : (modesOf E.P ops).all (fun m => ordOk m ops) = true) (hap : (modesOf E.P ops).all (fun m => allApart (aheadOf m ops.toList []) [] rows) = true)
    {ν : Nm} {w : World} {b : Act} (hg : Ctx E c ν s w) (hR : R E.P ν s w) (hT : TRel ν a b) (hF : Fresh ν s.n s'.n) (id : Nat) (fn : FuncId) (kd : CallKind) (ro : Option Nat) (kk : List Item) (cs : List Frame) :
    ∃ ν' w' b', Steps E.P (lone (fat fn kd ro b (.code (.region id ops true) :: kk)) cs w) (lone (fat fn kd ro b' kk) cs w') ∧ Post E.P ν s w ν' s' w' ∧ TRel ν' a' b' := by
  obtain ⟨t, hrows⟩ := drawOps_trace k _ _ _ _ _ _ _ hrun
  rw [List.nil_append, List.length_range] at hrows
  subst hrows
  obtain ⟨m, hm, t', hsch⟩ := schedule_mode E.P ops (w.tape w.drawn (.order fn id))
  have ho := List.all_eq_true.1 hord m hm
  have ha := List.all_eq_true.1 hap m hm
  have hup := ((fns_lcl hE.lcl k).drawOps _ _ _ _).up hrun
  have mono := t.mono hE.lcl
  have hxn : t.X ops.size = s' := by have e := t.xn; rwa [List.length_range] at e
  obtain ⟨ν', w', b', hs, hR', hF', hT'⟩ := draw_go t hE ih ha ho fn kd ro kk cs ops.size t' (Array.replicate ops.size false) s a (by
      unfold unlisted
      refine Nat.le_trans (List.length_filter_le _ _) ?_
      rw [List.length_range]; exact Nat.le_refl _)
    (Inv.init t _ (by simp) (fun i => by
      rw [Array.getD_eq_getD_getElem?]
      rcases Nat.lt_or_ge i ops.size with q | q
      · simp [q]
      · simp [q]))
    (fun j o _ hl => by
      exfalso
      rw [Array.getD_eq_getD_getElem?] at hl
      rcases Nat.lt_or_ge j ops.size with q | q
      · simp [q] at hl
      · simp [q] at hl)
    ν { w with drawn := w.drawn + 1 } b (hg.step (Fr.drew s w)) hR.drew hT (fun j hj _ => hF.sub (by have := mono 0 j (by omega) (by omega); rw [t.x0] at this; exact this) (by have := mono (j + 1) ops.size (by omega) (Nat.le_refl _); rw [hxn] at this; exact this))
  refine ⟨ν', w', b', ?_, ⟨hR', (Fr.drew s w).trans (hF'.toFr hup)⟩, hT'⟩
  refine .head m_draw ?_
  rw [hsch]
  exact hs
end
end Go.Dee
