/- Dee, part 17: soundness: calls, rounds, and all together. -/
import Derived.Test.YtmopbdalpkcffaaDoorDee16
import Derived.Laws.Sem
namespace Go.Dee
open Go
section
variable {P : Program}

/-- What leaves the world as it was. -/
def Quiet {α : Type} (P : Program) (q : Sem α) : Prop := ∀ w a w', q.run P w = .ok a w' → w' = w
theorem Quiet.pure {α : Type} (a : α) : Quiet P (Pure.pure a : Sem α) := by
  intro w b w' h
  change Result.ok a w = .ok b w' at h
  injection h with _ h; exact h.symm
theorem Quiet.bind {α β : Type} {q : Sem α} {f : α → Sem β} (h : Quiet P q) (k : ∀ a, Quiet P (f a)) : Quiet P (q >>= f) := by
  intro w b w' hr
  change (Sem.bind q f).run P w = _ at hr
  rw [run_bind] at hr
  cases hq : q.run P w with
  | ok a w1 =>
    rw [hq] at hr
    have := h w a w1 hq
    subst this
    exact k a _ _ _ hr
  | halt x w1 => rw [hq] at hr; simp at hr
theorem Quiet.stuck {α : Type} {m : String} : Quiet P (Go.stuck m : Sem α) := by
  intro w b w' h
  change Result.halt _ w = .ok b w' at h
  simp at h
theorem Quiet.unsupported {α : Type} {m : Unsupported} : Quiet P (Go.unsupported m : Sem α) := by
  intro w b w' h
  change Result.halt _ w = .ok b w' at h
  simp at h
theorem Quiet.program : Quiet P Go.program := by
  intro w b w' h
  change Result.ok P w = .ok b w' at h
  injection h with _ h; exact h.symm
theorem Quiet.typeInfo (t : TypeId) : Quiet P (Go.typeInfo t) := by
  refine Quiet.bind Quiet.program fun p => ?_
  split <;> first | exact Quiet.pure _ | exact Quiet.stuck
theorem Quiet.underlying (t : TypeId) : Quiet P (Go.underlying t) := by
  unfold Go.underlying
  refine Quiet.bind Quiet.program fun d => ?_
  split <;> first | exact Quiet.pure _ | exact Quiet.stuck
theorem Quiet.isAgg (t : TypeId) : Quiet P (Go.isAgg t) := by
  refine Quiet.bind (Quiet.underlying t) fun d => ?_
  split <;> exact Quiet.pure _
theorem Quiet.sizeOf (t : TypeId) : Quiet P (Go.sizeOf t) := Quiet.bind (Quiet.typeInfo t) fun _ => Quiet.pure _
theorem Quiet.load (a : Addr) : Quiet P (Go.load a) := by
  intro w b w' h
  unfold Go.load at h
  simp only [Sem.run] at h
  split at h
  · injection h with _ h; exact h.symm
  · split at h
    · injection h with _ h; exact h.symm
    · simp at h
theorem Quiet.loadCellsFrom (a : Addr) : ∀ (n i : Nat) (acc : Array Value), Quiet P (Go.loadCellsFrom a i n acc)
  | 0, _, _ => Quiet.pure _
  | n + 1, i, _ => Quiet.bind (Quiet.load _) fun _ => Quiet.loadCellsFrom a n (i + 1) _
theorem Quiet.loadVar (t : TypeId) (a : Addr) : Quiet P (Go.loadVar t a) := by
  refine Quiet.bind (Quiet.isAgg t) fun x => ?_
  cases x
  · exact Quiet.load _
  · exact Quiet.bind (Quiet.sizeOf _) fun _ => Quiet.bind (Quiet.loadCellsFrom a _ 0 #[]) fun _ => Quiet.pure _
theorem Quiet.nilDeref : Quiet P (Go.runtimePanic .nilDeref : Sem Addr) := by
  intro w b w' h
  change Result.halt _ _ = _ at h
  simp at h
theorem VRels.replicate {ν : Nm} (n : Nat) {u v : Value} (h : VRel ν u v) : VRels ν (Array.replicate n u) (Array.replicate n v) := by
  refine VRels.of_get (by simp) fun i a b p q => ?_
  have hi : i < n := by
    rcases Nat.lt_or_ge i n with r | r
    · exact r
    · simp [r] at p
  simp [hi] at p q
  subst p q
  exact h
theorem Quiet.asAddr (v : Value) : Quiet P (Go.asAddr v) := by
  unfold Go.asAddr
  split
  · exact Quiet.pure _
  · exact Quiet.nilDeref
  · exact Quiet.stuck
theorem Quiet.mapM {α β : Type} {f : α → Sem β} (h : ∀ x, Quiet P (f x)) : ∀ (l : List α), Quiet P (l.mapM f)
  | [] => by rw [List.mapM_nil]; exact Quiet.pure _
  | a :: l => by rw [List.mapM_cons]; exact Quiet.bind (h a) fun _ => Quiet.bind (Quiet.mapM h l) fun _ => Quiet.pure _
theorem Quiet.results (fn : Func) (tmps : Array Value) : Quiet P (Go.results fn tmps) := by
  unfold Go.results
  refine Quiet.bind ?_ fun _ => Quiet.pure _
  rw [Array.mapM_eq_mapM_toList]
  rw [map_eq_pure_bind]
  refine Quiet.bind (Quiet.mapM (fun x => ?_) _) fun _ => Quiet.pure _
  cases x with
  | tmp t => exact Quiet.pure _
  | cell a t => exact Quiet.bind (Quiet.asAddr _) fun _ => Quiet.loadVar _ _

variable {ν : Nm}
theorem Sim.mapM {α : Type} {f f' : α → Sem Value} (h : ∀ ν1, ν.le ν1 → ∀ x, Sim P ν1 VRel (f x) (f' x)) : ∀ (l : List α) (ν1 : Nm), ν.le ν1 → Sim P ν1 (fun ν => VRell ν) (l.mapM f) (l.mapM f')
  | [], ν1, e => by rw [List.mapM_nil, List.mapM_nil]; exact Sim.pure fun _ _ => rfl
  | a :: l, ν1, e => by
    rw [List.mapM_cons, List.mapM_cons]
    refine Sim.bind' (h ν1 e a) fun ν2 e2 v v' hv => ?_
    refine Sim.bind' (Sim.mapM h l ν2 (Nm.le_trans e e2)) fun ν3 e3 x x' hx => ?_
    exact Sim.pure fun ν4 e4 => ⟨_, _, rfl, hv.mono (Nm.le_trans e3 e4), VRell.mono e4 hx⟩
theorem getD_rel {x y : Array Value} (h : VRels ν x y) (i : Nat) : VRel ν (x.getD i undef) (y.getD i undef) := by
  rw [Array.getD_eq_getD_getElem?, Array.getD_eq_getD_getElem?]
  cases e : x[i]? with
  | none => rw [h.get_none e]; exact undef_rel
  | some v => obtain ⟨v', p, q⟩ := h.get e; rw [p]; exact q
theorem Sim.results (hg : GOk P ν) (fn : Func) {x y : Array Value} (h : VRels ν x y) : Sim P ν VRel (Go.results fn x) (Go.results fn y) := by
  unfold Go.results
  rw [Array.mapM_eq_mapM_toList, Array.mapM_eq_mapM_toList, map_eq_pure_bind, map_eq_pure_bind]
  refine Sim.bind' (Sim.bind' (Sim.mapM (ν := ν) (fun ν1 e x => ?_) _ ν (Nm.le_refl _)) fun ν2 e2 l l' hl => Sim.pure (A := fun ν => VRels ν) fun ν3 e3 => ?_) fun ν2 e2 l l' hl => Sim.pure fun ν3 e3 => ?_
  · cases x with
    | tmp t => exact Sim.pure fun ν2 e2 => getD_rel (VRels.mono (Nm.le_trans e e2) h) t
    | cell a t => exact Sim.bind' (Sim.asAddr (hg.mono e) (getD_rel (VRels.mono e h) a)) fun ν2 e2 p q k => Sim.loadVar k
  · exact VRell.mono e3 hl
  · have h3 := VRels.mono e3 hl
    have hs := h3.size
    split
    · rename_i h1
      rw [dif_pos (by omega)]
      have e1 : l[0]? = some l[0] := Array.getElem?_eq_getElem (by omega)
      obtain ⟨v', p, q⟩ := h3.get e1
      rw [Array.getElem?_eq_getElem (by omega)] at p
      rw [Option.some.inj p]; exact q
    · rename_i h1
      rw [dif_neg (by omega)]
      exact ⟨_, h3, rfl⟩
end

section
variable {E : Env} {c : Start} {k : Nat}

theorem snd_leave (hE : E.Ok c) (ih : Snd E c (fns E k)) : ∀ fn tmps md ds s r s', leave1 E (fns E k) fn tmps md ds s = some (r, s') → ∀ ν w (fr : Frame) cs md', Ctx E c ν s w → R E.P ν s w → VRels ν tmps fr.tmps → LRel (DfRel ν) ds fr.defers → Fresh ν s.n s'.n →
    E.P.funcs[fr.fn]? = some fn → fr.kind = .normal → MdRel ν md md' →
    fr.mode = (match md' with | none => .returning | some ch' => .panicking ch') →
    ∃ e w' fr', CallPost E.P ν s w s' r e w' ∧ Steps E.P (lone fr cs w) (lone fr' cs w') ∧ fr'.fn = fr.fn ∧ fr'.leaving E.P w' e := by
  intro fn tmps md ds s r s' hrun ν w fr cs md' hg hR hT hD hF hfn hkd hmd hmode
  unfold leave1 at hrun
  cases ds with
  | nil =>
    simp only [LRel] at hD
    cases md with
    | none =>
      simp only [MdRel] at hmd
      simp only [] at hrun
      subst hmd
      obtain ⟨v, s1, h1, h2⟩ := M.bind_some hrun
      obtain ⟨rfl, rfl⟩ := pure_some h2
      obtain ⟨ν1, v', w1, r1, hR1, hF1, hv⟩ := SimM.of (Sim.results hg.g fn hT) ν (Nm.le_refl _) s w v _ hR h1 hF
      have hw := Quiet.results fn fr.tmps w v' w1 r1
      subst hw
      exact ⟨.returned v', w1, fr, ⟨ν1, ⟨hR1, hF1⟩, hv⟩, .refl _ _, rfl, hmode, hD, hkd, fn, hfn, r1⟩
    | some ch =>
      simp only [MdRel] at hmd
      simp only [] at hrun
      obtain ⟨ch', rfl, hch⟩ := hmd
      obtain ⟨rfl, rfl⟩ := pure_some hrun
      exact ⟨.panicked ch', w, fr, ⟨ν, .refl hR, hch⟩, .refl _ _, rfl, hmode, hD, fn, hfn⟩
  | cons d ds =>
    obtain ⟨d', ds', hdd, hdr, hdsr⟩ := hD
    simp only [] at hrun
    cases ht : d.target <;> simp only [ht] at hrun <;> first | exact (fail_some hrun).elim | skip
    rename_i b
    obtain ⟨calls, s1, h1, h2⟩ := M.bind_some hrun
    have u1 := Up.embV _ _ _ _ h1
    have u2 := ((fns_lcl hE.lcl k).leave _ _ _ _).up h2
    have hdr1 := hdr.1
    rw [ht] at hdr1
    obtain ⟨L, hL, hdt⟩ := hdr1
    obtain ⟨ν1, calls', w1, r1, hR1, hF1, hc⟩ := SimM.of (Sim.takeDeferred hL rfl) ν (Nm.le_refl _) s w calls s1 hR h1 (hF.sub (Nat.le_refl _) u2)
    have hds : fr.defers = { target := .collected L.blk, args := d'.args } :: ds' := by
      rw [hdd]
      cases d'
      simp only at hdt
      subst hdt
      rfl
    have hmd1 : MdRel ν1 md md' := by
      cases md with
      | none => exact hmd
      | some ch => obtain ⟨ch', p, q⟩ := hmd; exact ⟨ch', p, LRel.mono (fun _ _ h => ⟨h.1.mono hF1.ext, h.2⟩) q⟩
    obtain ⟨e, w', fr', hcp, hs, hf, hl⟩ := ih.leave fn tmps md (calls ++ ds) s1 r s' h2 ν1 w1 { fr with defers := calls' ++ ds' } cs md' (hg.step hF1) hR1 (VRels.mono hF1.ext hT)
      (LRel.append hc (hdsr.mono fun _ _ h => h.mono hF1.ext)) (hF.later hF1 u2) hfn hkd hmd1 hmode
    refine ⟨e, w', fr', CallPost.trans ⟨hR1, hF1⟩ hcp, .head ?_ hs, hf, hl⟩
    refine m_collected (m := fr.mode) rfl ?_ hds r1
    rw [hmode]
    cases md' <;> simp

theorem snd_call (hE : E.Ok c) (ih : Snd E c (fns E k)) : ∀ f args s r s', call1 E (fns E k) f args s = some (r, s') → ∀ ν w args', Ctx E c ν s w → R E.P ν s w → VRels ν args args' → Fresh ν s.n s'.n → Calls E.P f args' w (CallPost E.P ν s w s' r) := by
  intro f args s r s' hrun ν w args' hg hR hA hF
  unfold call1 at hrun
  have L := fns_lcl hE.lcl k
  cases ho : E.orc f with
  | some p =>
    simp only [ho] at hrun
    obtain ⟨v, s1, h1, h2⟩ := M.bind_some hrun
    obtain ⟨rfl, rfl⟩ := pure_some h2
    exact hE.orc f p ho args s v _ h1 ν w args' hg hR hA hF
  | none =>
    simp only [ho] at hrun
    cases hfn : E.P.funcs[f]? with
    | none => simp only [hfn] at hrun; exact (fail_some hrun).elim
    | some fn =>
      simp only [hfn] at hrun
      cases hb : fn.body with
      | none => simp only [hb] at hrun; exact (fail_some hrun).elim
      | some code =>
        simp only [hb] at hrun
        obtain ⟨r1, s1, h1, h2⟩ := M.bind_some hrun
        obtain ⟨e1, a1⟩ := r1
        have u1 := (L.exec _ _ _ _).up h1
        have u2 : s1.n ≤ s'.n := by
          refine Lcl.up (p := _) ?_ h2
          split <;> first | exact L.leave _ _ _ _ | exact Lcl.fail
        intro cs
        have hargs : VRels ν (args ++ Array.replicate (fn.ntmps - args.size) undef) (args' ++ Array.replicate (fn.ntmps - args'.size) undef) := by
          refine VRels.append hA ?_
          rw [hA.size]
          exact VRels.replicate _ undef_rel
        obtain ⟨ν1, w1, b1, harr, hp1, hT1⟩ := ih.exec f none code _ s e1 a1 s1 h1 ν w { tmps := args' ++ Array.replicate (fn.ntmps - args'.size) undef, defers := [] } none .normal [] cs _ hg hR ⟨hargs, rfl⟩ (hF.sub (Nat.le_refl _) u2) rfl (.inl rfl)
        have henter : Frame.enter E.P f args' .normal = fat f .normal none { tmps := args' ++ Array.replicate (fn.ntmps - args'.size) undef, defers := [] } [.code code] := by
          simp [Frame.enter, fat, hfn, hb]
        rw [← henter] at harr
        have hF1 : Fresh ν1 s1.n s'.n := hF.later hp1.2 u2
        have hg1 := hg.step hp1.2
        cases e1 with
        | norm =>
          obtain ⟨e, w', fr', hcp, hs, hf, hl⟩ := ih.leave fn a1.tmps none a1.defers s1 r s' h2 ν1 w1 { fat f .normal none b1 [] with mode := .returning } cs none hg1 hp1.1 hT1.1 hT1.2 hF1 hfn rfl rfl rfl
          refine ⟨e, w', fr', hp1 |>.elim fun a b => CallPost.trans ⟨a, b⟩ hcp, ?_, hf, hl⟩
          refine Comes.of_steps (Steps.trans harr (.one m_end)) ?_
          obtain ⟨ν9, hq, hm⟩ := hcp
          cases r <;> cases e <;> first | exact hs | exact hm.elim
        | ret =>
          obtain ⟨k', harr⟩ := harr
          obtain ⟨e, w', fr', hcp, hs, hf, hl⟩ := ih.leave fn a1.tmps none a1.defers s1 r s' h2 ν1 w1 { fat f .normal none b1 (.code .ret :: k') with mode := .returning } cs none hg1 hp1.1 hT1.1 hT1.2 hF1 hfn rfl rfl rfl
          refine ⟨e, w', fr', hp1 |>.elim fun a b => CallPost.trans ⟨a, b⟩ hcp, ?_, hf, hl⟩
          refine Comes.of_steps (Steps.trans harr (.one m_ret)) ?_
          obtain ⟨ν9, hq, hm⟩ := hcp
          cases r <;> cases e <;> first | exact hs | exact hm.elim
        | panic ch =>
          obtain ⟨ch', todo, hch, _, harr⟩ := harr
          obtain ⟨e, w', fr', hcp, hs, hf, hl⟩ := ih.leave fn a1.tmps (some ch) a1.defers s1 r s' h2 ν1 w1 { fat f .normal none b1 todo with mode := .panicking ch' } cs (some ch') hg1 hp1.1 hT1.1 hT1.2 hF1 hfn rfl ⟨ch', rfl, hch⟩ rfl
          refine ⟨e, w', fr', hp1 |>.elim fun a b => CallPost.trans ⟨a, b⟩ hcp, ?_, hf, hl⟩
          refine Comes.of_steps harr ?_
          obtain ⟨ν9, hq, hm⟩ := hcp
          cases r <;> cases e <;> first | exact hs | exact hm.elim
        | exit id => exact (fail_some h2).elim
        | goto l => exact (fail_some h2).elim
end
end Go.Dee
