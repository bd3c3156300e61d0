/- Dee, part 26: functions that are taken by their contracts. -/
import Derived.Test.YtmopbdalpkcffaaDoorDee25
namespace Go.Dee
open Go Go.RowKit

/-! A function of plain values; what it asks of them is put off. -/
noncomputable def oOn (C : List Value → Prop) (F : List Value → Option Value) (args : Array Value) : M Value :=
  match F args.toList with
  | some v => (put (C args.toList)).bind fun _ => open Classical in if C args.toList then pure v else fail
  | none => fail
def oOff (C : List Value → Prop) (F : List Value → Option Value) (args : Array Value) : M Value :=
  match F args.toList with
  | some v => (put (C args.toList)).bind fun _ => pure v
  | none => fail
theorem oOn_lcl (C : List Value → Prop) (F : List Value → Option Value) (args : Array Value) : Lcl (oOn C F args) := by
  unfold oOn
  split
  · refine Lcl.bind (Lcl.put _) fun _ => ?_
    split
    · exact Lcl.pure _
    · exact Lcl.fail
  · exact Lcl.fail
theorem oOn_rf (C : List Value → Prop) (F : List Value → Option Value) (args : Array Value) : Rf (oOn C F args) (oOff C F args) := by
  unfold oOn oOff
  split
  · rename_i v hv
    intro s t r s' e hr
    have h0 := Rf.bind (Rf.put (C args.toList)) (fun _ => Rf.pure v) s t r s' e hr
    refine ⟨h0.1, fun hh => ?_⟩
    obtain ⟨u, s1, h1, h2⟩ := M.bind_some hr
    simp only [put, Option.some.injEq, Prod.mk.injEq] at h1
    obtain ⟨_, rfl⟩ := h1
    obtain ⟨_, rfl⟩ := pure_some h2
    have hc : C args.toList := hh _ (by simp)
    rw [if_pos hc]
    exact h0.2 hh
  · exact Rf.fail
/-- The contract that such a function owes. -/
def Owes (P : Program) (f : FuncId) (B : World → Prop) (C : List Value → Prop) (F : List Value → Option Value) : Prop :=
  ∀ l v, F l = some v → C l → noAddrl l = true ∧ noAddr v = true ∧ ∀ w, B w → Calls P f l.toArray w fun e w' => e = .returned v ∧ Below w.heap.size w w'
theorem oOn_ok {E : Env} {c : Start} {f : FuncId} {B : World → Prop} {C : List Value → Prop} {F : List Value → Option Value} (hB : ∀ ν s w, Ctx E c ν s w → B w) (h : Owes E.P f B C F) : OrcOk E c f (oOn C F) := by
  intro args s v s' hrun ν w args' hg hR hA hF
  unfold oOn at hrun
  cases hu : F args.toList with
  | none => simp only [hu] at hrun; exact (fail_some hrun).elim
  | some u =>
  simp only [hu] at hrun
  obtain ⟨_, s1, hput, hrun⟩ := M.bind_some hrun
  have hS := put_some hput
  split at hrun
  case isFalse => exact (fail_some hrun).elim
  rename_i hc
  obtain ⟨rfl, rfl⟩ := pure_some hrun
  obtain ⟨h1, h2, h3⟩ := h _ _ hu hc
  have hA' : args' = args := by
    have := noAddrl_eq h1 (VRels.toList hA)
    cases args'; cases args; simp only at this; rw [this]
  subst hA'
  have h4 := h3 w (hB _ _ _ hg)
  rw [Array.toArray_toList] at h4
  refine h4.mono ?_
  rintro e w' ⟨rfl, hb⟩
  exact ⟨ν, (Post.below hR hb).trans ⟨R.same hS (Post.below hR hb).1, Fr.same _ hS⟩, noAddr_rel h2⟩
end Go.Dee
