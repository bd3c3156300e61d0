/- Dee, part 16: soundness of the whole. -/
import Derived.Test.YtmopbdalpkcffaaDoorDee15
namespace Go.Dee
open Go
section
variable {E : Env} {c : Start} {k : Nat}

theorem LRel.append {α β : Type} {A : α → β → Prop} : ∀ {x x' : List α} {y y' : List β}, LRel A x y → LRel A x' y' → LRel A (x ++ x') (y ++ y')
  | [], _, y, _, h, k => by simp only [LRel] at h; subst h; exact k
  | a :: x, _, y, _, h, k => by obtain ⟨b, z, rfl, q, r⟩ := h; exact ⟨b, _, rfl, q, LRel.append r k⟩
theorem resolve_yield (c : Act) (f : Operand) (l : Nat) :
    resolve c.eval { callee := .value f, args := #[.const (.func (.yield l) #[] #[])], argTypes := #[] } 0 = Deferred.ofValue (c.eval f) #[.func (.yield l) #[] #[]] := by
  have : (#[Operand.const (Value.func (.yield l) #[] #[])]).map c.eval = #[Value.func (.yield l) #[] #[]] := by simp [Act.eval]
  unfold resolve
  simp only [this]
theorem exitTo_plain (id : Nat) (c : Code) (k : List Item) : exitTo id (.code c :: k) = exitTo id k := rfl
theorem exitTo_inLoop (id : Nat) (c : Code) (k : List Item) : exitTo id (.inLoop c :: k) = exitTo id k := rfl

theorem snd_exec (hE : E.Ok c) (ih : Snd E c (fns E k)) (ihs : ∀ k', k' < k → Snd E c (fns E k')) : ∀ fn ro code a s e a' s', exec1 E (fns E k) fn ro code a s = some ((e, a'), s') →
    ∀ ν w b ro' kd k cs todo, Ctx E c ν s w → R E.P ν s w → TRel ν a b → Fresh ν s.n s'.n → RoRel ν ro ro' →
    (todo = .code code :: k ∨ ∃ x, code = .loop x ∧ todo = .inLoop x :: k) →
    ∃ ν' w' b', Arr E.P ν' (lone (fat fn kd ro' b todo) cs w) fn kd ro' k cs e b' w' ∧ Post E.P ν s w ν' s' w' ∧ TRel ν' a' b' := by
  intro fn ro code a s e a' s' hrun ν w b ro' kd kk cs todo hg hR hT hF hro htodo
  have L := fns_lcl hE.lcl k
  unfold exec1 at hrun
  cases code
  case skip =>
    obtain ⟨h1, rfl⟩ := pure_some hrun
    simp only [Prod.mk.injEq] at h1
    obtain ⟨rfl, rfl⟩ := h1
    rcases htodo with rfl | ⟨x, h, _⟩
    · exact ⟨ν, w, b, .one m_skip, .refl hR, hT⟩
    · simp at h
  case label l =>
    obtain ⟨h1, rfl⟩ := pure_some hrun
    simp only [Prod.mk.injEq] at h1
    obtain ⟨rfl, rfl⟩ := h1
    rcases htodo with rfl | ⟨x, h, _⟩
    · exact ⟨ν, w, b, .one m_label, .refl hR, hT⟩
    · simp at h
  case exit id =>
    obtain ⟨h1, rfl⟩ := pure_some hrun
    simp only [Prod.mk.injEq] at h1
    obtain ⟨rfl, rfl⟩ := h1
    rcases htodo with rfl | ⟨x, h, _⟩
    · exact ⟨ν, w, b, ⟨kk, rfl, .refl _ _⟩, .refl hR, hT⟩
    · simp at h
  case ret =>
    obtain ⟨h1, rfl⟩ := pure_some hrun
    simp only [Prod.mk.injEq] at h1
    obtain ⟨rfl, rfl⟩ := h1
    rcases htodo with rfl | ⟨x, h, _⟩
    · exact ⟨ν, w, b, ⟨kk, .refl _ _⟩, .refl hR, hT⟩
    · simp at h
  case goto l => exact (fail_some hrun).elim
  case scope c => exact (fail_some hrun).elim
  case refuse c => exact (fail_some hrun).elim
  case seq x y =>
    rcases htodo with rfl | ⟨x, h, _⟩
    case inr => simp at h
    simp only [] at hrun
    obtain ⟨r, s1, h1, h2⟩ := M.bind_some hrun
    obtain ⟨e1, a1⟩ := r
    have hup1 := (L.exec _ _ _ _).up h1
    by_cases he : e1 = .norm
    · subst he
      simp only [] at h2
      have hup2 := (L.exec _ _ _ _).up h2
      obtain ⟨ν1, w1, b1, harr, hp1, hT1⟩ := ih.exec fn ro x a s _ a1 s1 h1 ν w b ro' kd (.code y :: kk) cs _ hg hR hT (hF.sub (Nat.le_refl _) hup2) hro (.inl rfl)
      obtain ⟨ν2, w2, b2, harr2, hp2, hT2⟩ := ih.exec fn ro y a1 s1 e a' s' h2 ν1 w1 b1 ro' kd kk cs _ (hg.step hp1.2) hp1.1 hT1 (hF.later hp1.2 hup2) (hro.mono hp1.2.ext) (.inl rfl)
      exact ⟨ν2, w2, b2, .of_steps (.head m_seq harr) harr2, hp1.trans hp2, hT2⟩
    · have h3 : e = e1 ∧ a' = a1 ∧ s' = s1 := by
        cases e1 <;> first | exact absurd rfl he | skip
        all_goals (obtain ⟨h4, rfl⟩ := pure_some h2; simp only [Prod.mk.injEq] at h4; exact ⟨h4.1, h4.2, rfl⟩)
      obtain ⟨rfl, rfl, rfl⟩ := h3
      obtain ⟨ν1, w1, b1, harr, hp1, hT1⟩ := ih.exec fn ro x a s _ _ _ h1 ν w b ro' kd (.code y :: kk) cs _ hg hR hT hF hro (.inl rfl)
      exact ⟨ν1, w1, b1, .of_steps (.one m_seq) (Arr.pass (fun id _ => exitTo_plain id y kk) he harr), hp1, hT1⟩
  case cond c x y =>
    rcases htodo with rfl | ⟨x, h, _⟩
    case inr => simp at h
    simp only [] at hrun
    cases ht : a.eval c <;> simp only [ht] at hrun <;> first | exact (fail_some hrun).elim | skip
    rename_i t
    obtain ⟨ν2, w2, b2, harr2, hp2, hT2⟩ := ih.exec fn ro _ a s e a' s' hrun ν w b ro' kd kk cs _ hg hR hT hF hro (.inl rfl)
    have hb : b.eval c = .bool t := by
      cases c with
      | tmp i =>
        have h1 : a.tmps.getD i undef = .bool t := ht
        rw [Array.getD_eq_getD_getElem?] at h1
        cases e1 : a.tmps[i]? with
        | none => rw [e1] at h1; simp [undef] at h1
        | some v =>
          rw [e1] at h1
          simp only [Option.getD_some] at h1
          subst h1
          obtain ⟨v', p, q⟩ := hT.1.get e1
          simp only [VRel] at q
          subst q
          show b.tmps.getD i undef = .bool t
          rw [Array.getD_eq_getD_getElem?, p]; rfl
      | const v => exact ht
      | global g => simp [Act.eval] at ht
      | func f => simp [Act.eval] at ht
    exact ⟨ν2, w2, b2, .of_steps (.one (m_cond hb)) harr2, hp2, hT2⟩
  case block id c =>
    rcases htodo with rfl | ⟨x, h, _⟩
    case inr => simp at h
    simp only [] at hrun
    obtain ⟨r, s1, h1, h2⟩ := M.bind_some hrun
    obtain ⟨e1, a1⟩ := r
    have hs1 : s' = s1 := by
      simp only [] at h2
      split at h2 <;> exact (pure_some h2).2
    subst hs1
    obtain ⟨ν1, w1, b1, harr, hp1, hT1⟩ := ih.exec fn ro c a s _ a1 _ h1 ν w b ro' kd (.inBlock id :: kk) cs _ hg hR hT hF hro (.inl rfl)
    cases e1 with
    | norm =>
      obtain ⟨h4, _⟩ := pure_some h2; simp only [Prod.mk.injEq] at h4; obtain ⟨rfl, rfl⟩ := h4
      exact ⟨ν1, w1, b1, .head m_block (Steps.trans harr (.one m_inBlock)), hp1, hT1⟩
    | exit id' =>
      obtain ⟨h4, _⟩ := pure_some h2; simp only [Prod.mk.injEq] at h4; obtain ⟨rfl, rfl⟩ := h4
      obtain ⟨k', hk', hs⟩ := harr
      by_cases e : id' = id
      · rw [if_pos e]
        subst e
        refine ⟨ν1, w1, b1, .head m_block (Steps.trans hs (.one (m_exit ?_))), hp1, hT1⟩
        rw [hk']; simp [exitTo]
      · rw [if_neg e]
        refine ⟨ν1, w1, b1, ⟨k', ?_, .head m_block hs⟩, hp1, hT1⟩
        rw [hk']
        have : (id == id') = false := by simp; exact fun h => e h.symm
        simp [exitTo, this]
    | goto l => exact harr.elim
    | ret =>
      obtain ⟨h4, _⟩ := pure_some h2; simp only [Prod.mk.injEq] at h4; obtain ⟨rfl, rfl⟩ := h4
      obtain ⟨k', hs⟩ := harr
      exact ⟨ν1, w1, b1, ⟨k', .head m_block hs⟩, hp1, hT1⟩
    | panic ch =>
      obtain ⟨h4, _⟩ := pure_some h2; simp only [Prod.mk.injEq] at h4; obtain ⟨rfl, rfl⟩ := h4
      exact ⟨ν1, w1, b1, Arr.of_steps (e := .panic ch) (.one m_block) harr, hp1, hT1⟩
  case loop c =>
    have hstart : step E.P (lone (fat fn kd ro' b todo) cs w) = .next (lone (fat fn kd ro' b (.code c :: .inLoop c :: kk)) cs w) := by
      rcases htodo with rfl | ⟨x, h, rfl⟩
      · exact m_loop
      · injection h with h; subst h; exact m_inLoop
    simp only [] at hrun
    obtain ⟨r, s1, h1, h2⟩ := M.bind_some hrun
    obtain ⟨e1, a1⟩ := r
    have hup1 := (L.exec _ _ _ _).up h1
    by_cases he : e1 = .norm
    · subst he
      simp only [] at h2
      have hup2 := (L.exec _ _ _ _).up h2
      obtain ⟨ν1, w1, b1, harr, hp1, hT1⟩ := ih.exec fn ro c a s _ a1 s1 h1 ν w b ro' kd (.inLoop c :: kk) cs _ hg hR hT (hF.sub (Nat.le_refl _) hup2) hro (.inl rfl)
      obtain ⟨ν2, w2, b2, harr2, hp2, hT2⟩ := ih.exec fn ro (.loop c) a1 s1 e a' s' h2 ν1 w1 b1 ro' kd kk cs _ (hg.step hp1.2) hp1.1 hT1 (hF.later hp1.2 hup2) (hro.mono hp1.2.ext) (.inr ⟨c, rfl, rfl⟩)
      exact ⟨ν2, w2, b2, .of_steps (.head hstart harr) harr2, hp1.trans hp2, hT2⟩
    · have h3 : e = e1 ∧ a' = a1 ∧ s' = s1 := by
        cases e1 <;> first | exact absurd rfl he | skip
        all_goals (obtain ⟨h4, rfl⟩ := pure_some h2; simp only [Prod.mk.injEq] at h4; exact ⟨h4.1, h4.2, rfl⟩)
      obtain ⟨rfl, rfl, rfl⟩ := h3
      obtain ⟨ν1, w1, b1, harr, hp1, hT1⟩ := ih.exec fn ro c a s _ _ _ h1 ν w b ro' kd (.inLoop c :: kk) cs _ hg hR hT hF hro (.inl rfl)
      exact ⟨ν1, w1, b1, .of_steps (.one hstart) (Arr.pass (fun id _ => exitTo_inLoop id c kk) he harr), hp1, hT1⟩
  case region id ops draw =>
    rcases htodo with rfl | ⟨x, h, _⟩
    case inr => simp at h
    simp only [] at hrun
    cases draw with
    | false =>
      simp only [Bool.false_eq_true, if_false] at hrun
      obtain ⟨ν2, w2, b2, harr2, hp2, hT2⟩ := ih.runOps fn ro ops _ a s e a' s' hrun ν w b ro' kd kk cs hg hR hT hF hro
      exact ⟨ν2, w2, b2, .of_steps (.one m_region) harr2, hp2, hT2⟩
    | true =>
      simp only [if_true] at hrun
      split at hrun
      case isFalse => exact (fail_some hrun).elim
      rename_i hord
      obtain ⟨r, s1, h1, h2⟩ := M.bind_some hrun
      obtain ⟨a1, rows⟩ := r
      simp only [] at h2
      split at h2
      case isFalse => exact (fail_some h2).elim
      rename_i hap
      obtain ⟨h4, rfl⟩ := pure_some h2; simp only [Prod.mk.injEq] at h4; obtain ⟨rfl, rfl⟩ := h4
      obtain ⟨ν', w', b', hs, hp, hT'⟩ := snd_draw hE ihs h1 hord hap hg hR hT hF id fn kd ro' kk cs
      exact ⟨ν', w', b', hs, hp, hT'⟩
  case rangeFunc f ps x y =>
    rcases htodo with rfl | ⟨x, h, _⟩
    case inr => simp at h
    simp only [] at hrun
    split at hrun
    case isTrue => exact (fail_some hrun).elim
    rename_i hf
    have hf : opndOk E.P f = true := by simpa using hf
    obtain ⟨lm, s1, h1, h2⟩ := M.bind_some hrun
    obtain ⟨nx, s2, h3, h4⟩ := M.bind_some h2
    cases nx <;> simp only [] at h4 <;> first | exact (fail_some h4).elim | skip
    rename_i g args
    obtain ⟨cr, s3, h5, h6⟩ := M.bind_some h4
    have u1 := Up.embV _ _ _ _ h1
    have u2 := Up.embV _ _ _ _ h3
    have u3 := (L.call _ _).up h5
    have u6 : s3.n ≤ s'.n := by
      refine Lcl.up (p := _) ?_ h6
      split
      · exact Lcl.pure _
      · refine Lcl.bind (Lcl.embV _ _) fun r => ?_
        split
        · exact Lcl.pure _
        · exact L.exec _ _ _ _
    obtain ⟨l, mark⟩ := lm
    obtain ⟨ν1, q1, w1, r1, hR1, hF1, ⟨⟨Ll, hl, hlb⟩, hmark⟩⟩ := SimM.of (Sim.enterLoop (fn := fn) (ps := ps) (a := x) (b := y) hT.1 hro) ν (Nm.le_refl _) s w _ s1 hR h1 (hF.sub (Nat.le_refl _) (by omega))
    obtain ⟨l', mark'⟩ := q1
    simp only at hlb hmark hl
    subst hlb
    have hT1 : TRel ν1 { a with defers := mark ++ a.defers } { b with defers := mark' ++ b.defers } := by
      have := hT.mono hF1.ext
      exact ⟨this.1, LRel.append hmark this.2⟩
    have hg1 := hg.step hF1
    have hev := eval_rel hg1.g hT1 hf
    have hcallee : Sim E.P ν1 NxRel (do let d ← resolve ({ a with defers := mark ++ a.defers } : Act).eval { callee := .value f, args := #[.const (.func (.yield l) #[] #[])], argTypes := #[] } 0; invoke d.target d.args)
        (do let d ← resolve ({ b with defers := mark' ++ b.defers } : Act).eval { callee := .value f, args := #[.const (.func (.yield Ll.blk) #[] #[])], argTypes := #[] } 0; invoke d.target d.args) := by
      rw [resolve_yield, resolve_yield]
      refine Sim.bind' (Sim.ofValue hev ?_) fun ν2 e2 d d' hd => Sim.invoke (hg1.g.mono e2) hd.1 hd.2
      exact VRels.one ⟨_, _, _, ⟨Ll, hl, rfl⟩, VRels.nil, VRels.nil, rfl⟩
    have hF' : Fresh ν1 s1.n s'.n := hF.later hF1 (by omega)
    obtain ⟨ν2, q2, w2, r2, hR2, hF2, hnx⟩ := SimM.of hcallee ν1 (Nm.le_refl _) s1 w1 _ s2 hR1 h3 (hF'.sub (Nat.le_refl _) (by omega))
    obtain ⟨args', rfl, ha⟩ := hnx
    have hF'' : Fresh ν2 s2.n s'.n := hF'.later hF2 (by omega)
    have hstep := m_rangeFunc (P := E.P) (fn := fn) (kd := kd) (ro := ro') (a := b) (k := kk) (cs := cs) (w := w) r1 r2
    obtain ⟨en, w3, fr, ⟨ν3, hp3, hm⟩, hcomes, hfn, hleave⟩ := ih.call g args s2 cr s3 h5 ν2 w2 args' (hg1.step hF2) hR2 ha (hF''.sub (Nat.le_refl _) u6) (fat fn kd ro' { b with defers := mark' ++ b.defers } (.inRangeFunc Ll.blk :: kk) :: cs)
    have hP : Post E.P ν s w ν3 s3 w3 := Post.trans ⟨hR1, hF1⟩ (Post.trans ⟨hR2, hF2⟩ hp3)
    have hT3 := hT1.mono (Nm.le_trans hF2.ext hp3.2.ext)
    cases cr with
    | error ch =>
      obtain ⟨h7, rfl⟩ := pure_some h6; simp only [Prod.mk.injEq] at h7; obtain ⟨rfl, rfl⟩ := h7
      cases en with
      | returned v => exact hm.elim
      | outgrown => exact hm.elim
      | panicked c =>
        exact ⟨ν3, w3, _, ⟨c, .inRangeFunc Ll.blk :: kk, hm, fun _ _ => fat_catches (by simp), .head hstep (Steps.trans hcomes (.one (step_leave_panicked hleave)))⟩, hP, hT3⟩
    | ok v =>
      cases en with
      | panicked c => exact hm.elim
      | outgrown => exact hm.elim
      | returned v' =>
        simp only [] at h6
        obtain ⟨j, s4, h7, h8⟩ := M.bind_some h6
        have u4 := Up.embV _ _ _ _ h7
        have u5 : s4.n ≤ s'.n := by
          refine Lcl.up (p := _) ?_ h8
          split
          · exact Lcl.pure _
          · exact L.exec _ _ _ _
        have hl3 : ν3 l = some Ll := hp3.2.ext _ _ (hF2.ext _ _ hl)
        have hF3 : Fresh ν3 s3.n s'.n := hF''.later hp3.2 u6
        obtain ⟨ν4, j', w4, r4, hR4, hF4, hj⟩ := SimM.of (Sim.endLoop ((hg1.step hF2).step hp3.2).g hl3 rfl) ν3 (Nm.le_refl _) s3 w3 j s4 hp3.1 h7 (hF3.sub (Nat.le_refl _) u5)
        have hjj : j' = j := hj
        subst hjj
        have hret : step E.P (lone fr (fat fn kd ro' { b with defers := mark' ++ b.defers } (.inRangeFunc Ll.blk :: kk) :: cs) w3) = .next (lone (fat fn kd ro' { b with defers := mark' ++ b.defers } (.endRangeFunc Ll.blk :: kk)) cs w3) := step_leave_returned hleave
        have hend := m_endRangeFunc (P := E.P) (fn := fn) (kd := kd) (ro := ro') (a := { b with defers := mark' ++ b.defers }) (k := kk) (cs := cs) r4
        have hsteps : Steps E.P (lone (fat fn kd ro' b (.code (.rangeFunc f ps x y) :: kk)) cs w) (lone (fat fn kd ro' { b with defers := mark' ++ b.defers } ((j'.map Item.code).toList ++ kk)) cs w4) :=
          .head hstep (Steps.trans hcomes (.head hret (.one hend)))
        have hP4 : Post E.P ν s w ν4 s4 w4 := hP.trans ⟨hR4, hF4⟩
        have hT4 := hT3.mono hF4.ext
        cases j' with
        | none =>
          obtain ⟨h9, rfl⟩ := pure_some h8; simp only [Prod.mk.injEq] at h9; obtain ⟨rfl, rfl⟩ := h9
          exact ⟨ν4, w4, _, hsteps, hP4, hT4⟩
        | some j =>
          obtain ⟨ν5, w5, b5, harr, hp5, hT5⟩ := ih.exec fn ro j _ s4 e a' s' h8 ν4 w4 _ ro' kd kk cs _ (((hg1.step hF2).step hp3.2).step hF4) hR4 hT4 (hF3.later hF4 u5) (hro.mono hP4.2.ext) (.inl rfl)
          exact ⟨ν5, w5, b5, .of_steps hsteps harr, hP4.trans hp5, hT5⟩
end
end Go.Dee
