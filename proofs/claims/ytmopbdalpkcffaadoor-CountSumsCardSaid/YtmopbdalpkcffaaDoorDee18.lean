/- Dee, part 18: soundness: all together. -/
import Derived.Test.YtmopbdalpkcffaaDoorDee17
namespace Go.Dee
open Go
section
variable {E : Env} {c : Start} {k : Nat}

theorem snd_round (hE : E.Ok c) (ih : Snd E c (fns E k)) : ∀ l f tmps x y s r s', round1 E (fns E k) l f tmps x y s = some (r, s') → ∀ ν w L tmps' cf cs, Ctx E c ν s w → R E.P ν s w → ν l = some L → VRels ν tmps tmps' → Fresh ν s.n s'.n →
    ∃ ν' w', Post E.P ν s w ν' s' w' ∧ match r with
      | .ok v => ∃ v', VRel ν' v v' ∧ Steps E.P (lone (Frame.round L.blk f tmps' x y .normal) (cf :: cs) w) (lone (cf.finish v') cs w')
      | .error ch => ∃ ch', ChRel ν' ch ch' ∧ Steps E.P (lone (Frame.round L.blk f tmps' x y .normal) (cf :: cs) w) (lone (cf.raise ch') cs w') := by
  intro l f tmps x y s r s' hrun ν w Ll tmps' cf cs hg hR hl hT hF
  have L := fns_lcl hE.lcl k
  unfold round1 at hrun
  obtain ⟨r1, s1, h1, h2⟩ := M.bind_some hrun
  obtain ⟨e1, a1⟩ := r1
  cases e1 <;> simp only [] at h2 <;> first | exact (fail_some h2).elim | skip
  split at h2
  case isTrue => exact (fail_some h2).elim
  rename_i hd1
  have hd1 : a1.defers = [] := by simpa using hd1
  obtain ⟨br, s2, h3, h4⟩ := M.bind_some h2
  have u1 := (L.exec _ _ _ _).up h1
  have u2 := (Lcl.emb E.P _).up h3
  have u4 : s2.n ≤ s'.n := by
    refine Lcl.up (p := _) ?_ h4
    split
    · exact Lcl.pure _
    · refine Lcl.bind (L.exec _ _ _ _) fun r => Lcl.ite Lcl.fail ?_
      split
      · exact Lcl.pure _
      · split
        · exact Lcl.fail
        · exact Lcl.bind (Lcl.embV _ _) fun _ => Lcl.pure _
  have hro : RoRel ν (some l) (some Ll.blk) := ⟨Ll, hl, rfl⟩
  obtain ⟨ν1, w1, b1, harr, hp1, hT1⟩ := ih.exec f (some l) x { tmps, defers := [] } s .norm a1 s1 h1 ν w { tmps := tmps', defers := [] } (some Ll.blk) .normal [.beginRound, .code y] (cf :: cs) _ hg hR ⟨hT, rfl⟩ (hF.sub (Nat.le_refl _) (by omega)) hro (.inl rfl)
  have hb1 : b1.defers = [] := by have := hT1.2; rw [hd1] at this; exact this
  have hl1 := hp1.2.ext _ _ hl
  have hF1 : Fresh ν1 s1.n s'.n := hF.later hp1.2 (by omega)
  have hg1 := hg.step hp1.2
  have hbr := Sim.beginRound (P := E.P) hg1.g hl1 rfl ν1 (Nm.le_refl _) s1 w1 br s2 hp1.1 h3 (hF1.sub (Nat.le_refl _) (by omega))
  have hstart : Steps E.P (lone (Frame.round Ll.blk f tmps' x y .normal) (cf :: cs) w) (lone (fat f .normal (some Ll.blk) b1 [.beginRound, .code y]) (cf :: cs) w1) := harr
  cases br with
  | error v =>
    obtain ⟨rfl, rfl⟩ := pure_some h4
    obtain ⟨ν2, v', w2, r2, hR2, hF2, hv⟩ := hbr
    refine ⟨ν2, w2, hp1.trans ⟨hR2, hF2⟩, _, ChRel.one hv, hstart.trans (.head (m_beginRoundPanic r2) (.one ?_))⟩
    exact m_roundPanic hb1 (fat_catches (by simp))
  | ok u =>
    obtain ⟨ν2, u', w2, r2, hR2, hF2, _⟩ := hbr
    simp only [] at h4
    obtain ⟨r3, s3, h5, h6⟩ := M.bind_some h4
    obtain ⟨e3, a3⟩ := r3
    have u5 := (L.exec _ _ _ _).up h5
    split at h6
    case isTrue => exact (fail_some h6).elim
    rename_i hd3
    have hd3 : a3.defers = [] := by simpa using hd3
    have u6 : s3.n ≤ s'.n := by
      refine Lcl.up (p := _) ?_ h6
      split
      · exact Lcl.pure _
      · split
        · exact Lcl.fail
        · exact Lcl.bind (Lcl.embV _ _) fun _ => Lcl.pure _
    have hF2' : Fresh ν2 s2.n s'.n := hF1.later hF2 u4
    have hg2 := hg1.step hF2
    have hl2 := hF2.ext _ _ hl1
    obtain ⟨ν3, w3, b3, harr3, hp3, hT3⟩ := ih.exec f (some l) y a1 s2 e3 a3 s3 h5 ν2 w2 b1 (some Ll.blk) .normal [] (cf :: cs) _ hg2 hR2 (hT1.mono hF2.ext) (hF2'.sub (Nat.le_refl _) u6) ⟨Ll, hl2, rfl⟩ (.inl rfl)
    have hb3 : b3.defers = [] := by have := hT3.2; rw [hd3] at this; exact this
    have hP3 : Post E.P ν s w ν3 s3 w3 := hp1.trans (Post.trans ⟨hR2, hF2⟩ hp3)
    have hpre : Steps E.P (lone (Frame.round Ll.blk f tmps' x y .normal) (cf :: cs) w) (lone (fat f .normal (some Ll.blk) b1 [.code y]) (cf :: cs) w2) :=
      hstart.trans (.one (m_beginRound r2))
    have hl3 := hp3.2.ext _ _ hl2
    have hF3 : Fresh ν3 s3.n s'.n := hF2'.later hp3.2 u6
    have fin : ∀ (j : Option Code) (todo : List Item), Steps E.P (lone (fat f .normal (some Ll.blk) b1 [.code y]) (cf :: cs) w2) (lone (fat f .normal (some Ll.blk) b3 todo) (cf :: cs) w3) →
        ((todo = [] ∧ j = none) ∨ (∃ t, todo = .code .ret :: t ∧ j = some .ret) ∨ (∃ id t, todo = .code (.exit id) :: t ∧ exitTo id t = none ∧ j = some (.exit id))) →
        ((embV E.P (Instr.endRound l j)).bind fun v => (pure (.ok v) : M CR)) s3 = some (r, s') →
        ∃ ν' w' v v', r = .ok v ∧ Post E.P ν s w ν' s' w' ∧ VRel ν' v v' ∧ Steps E.P (lone (Frame.round Ll.blk f tmps' x y .normal) (cf :: cs) w) (lone (cf.finish v') cs w') := by
      intro j todo hs ht hh
      obtain ⟨v, s4, h7, h8⟩ := M.bind_some hh
      obtain ⟨rfl, rfl⟩ := pure_some h8
      obtain ⟨ν4, v', w4, r4, hR4, hF4, hv⟩ := SimM.of (Sim.endRound hl3 rfl j) ν3 (Nm.le_refl _) s3 w3 v _ hp3.1 h7 hF3
      exact ⟨ν4, w4, v, v', rfl, hP3.trans ⟨hR4, hF4⟩, hv, hpre.trans (hs.trans (.one (m_roundEnd ht r4)))⟩
    cases e3 with
    | norm =>
      obtain ⟨ν4, w4, v, v', rfl, q1, q2, q3⟩ := fin none [] harr3 (.inl ⟨rfl, rfl⟩) h6
      exact ⟨ν4, w4, q1, v', q2, q3⟩
    | ret =>
      obtain ⟨k', hs⟩ := harr3
      obtain ⟨ν4, w4, v, v', rfl, q1, q2, q3⟩ := fin (some .ret) _ hs (.inr (.inl ⟨k', rfl, rfl⟩)) h6
      exact ⟨ν4, w4, q1, v', q2, q3⟩
    | exit id =>
      obtain ⟨k', hk', hs⟩ := harr3
      obtain ⟨ν4, w4, v, v', rfl, q1, q2, q3⟩ := fin (some (.exit id)) _ hs (.inr (.inr ⟨id, k', rfl, hk', rfl⟩)) h6
      exact ⟨ν4, w4, q1, v', q2, q3⟩
    | goto l => exact harr3.elim
    | panic ch =>
      obtain ⟨rfl, rfl⟩ := pure_some h6
      obtain ⟨ch', todo, hch, hcat, hs⟩ := harr3
      exact ⟨ν3, w3, hP3, ch', hch, hpre.trans (hs.trans (.one (m_roundPanic hb3 (hcat _ _))))⟩

theorem snd_bot (E : Env) (c : Start) : Snd E c .bot where
  exec := fun _ _ _ _ _ _ _ _ h => by simp [Fns.bot, Dee.fail] at h
  runOps := fun _ _ _ _ _ _ _ _ _ h => by simp [Fns.bot, Dee.fail] at h
  runOp := fun _ _ _ _ _ h => by simp [Fns.bot, Dee.fail] at h
  call := fun _ _ _ _ _ h => by simp [Fns.bot, Dee.fail] at h
  leave := fun _ _ _ _ _ _ _ h => by simp [Fns.bot, Dee.fail] at h
  round := fun _ _ _ _ _ _ _ _ h => by simp [Fns.bot, Dee.fail] at h

/-- SOUNDNESS. -/
theorem sound (hE : E.Ok c) : ∀ k, Snd E c (fns E k) := by
  intro k
  induction k using Nat.strongRecOn with
  | _ k ih =>
    cases k with
    | zero => exact snd_bot E c
    | succ k =>
      have i1 := ih k (Nat.lt_succ_self _)
      have i2 : ∀ k', k' < k → Snd E c (fns E k') := fun k' h => ih k' (by omega)
      exact {
        exec := snd_exec hE i1 i2
        runOps := snd_runOps hE i1
        runOp := snd_runOp hE i1
        call := snd_call hE i1
        leave := snd_leave hE i1
        round := snd_round hE i1 }
end
end Go.Dee
