/- Dee, part 21: calls with free variables. -/
import Derived.Test.YtmopbdalpkcffaaDoorDee20
namespace Go.Dee
open Go Go.RowKit
section
variable {ν : Nm}
mutual
theorem noAddr_eq : ∀ {u v : Value}, noAddr u = true → VRel ν u v → v = u
  | .pointer none, v, _, h => by simpa only [VRel] using h
  | .pointer (some _), _, h, _ => by simp [noAddr] at h
  | .slice none _ c, v, _, h => by simp only [VRel] at h; exact h.2
  | .slice (some _) _ _, _, h, _ => by simp [noAddr] at h
  | .map none, v, _, h => by simpa only [VRel] using h
  | .map (some _), _, h, _ => by simp [noAddr] at h
  | .chan none, v, _, h => by simpa only [VRel] using h
  | .chan (some _), _, h, _ => by simp [noAddr] at h
  | .func f x y, v, h, k => by
    simp only [noAddr, Bool.and_eq_true] at h
    obtain ⟨⟨h1, h2⟩, h3⟩ := h
    obtain ⟨f', x', y', k1, k2, k3, rfl⟩ := k
    rw [noAddrs_eq h2 k2, noAddrs_eq h3 k3]
    have : f' = f := by cases f <;> simp [FnRel] at h1 k1 ⊢ <;> exact k1
    rw [this]
  | .iface t x, v, h, k => by
    simp only [noAddr] at h
    obtain ⟨x', k, rfl⟩ := k
    rw [noAddr_eq h k]
  | .agg x, v, h, k => by
    simp only [noAddr] at h
    obtain ⟨x', k, rfl⟩ := k
    rw [noAddrs_eq h k]
  | .tuple x, v, h, k => by
    simp only [noAddr] at h
    obtain ⟨x', k, rfl⟩ := k
    rw [noAddrs_eq h k]
  | .bool _, v, _, h => by simpa only [VRel] using h
  | .int _ _, v, _, h => by simpa only [VRel] using h
  | .float _ _, v, _, h => by simpa only [VRel] using h
  | .complex _ _ _, v, _, h => by simpa only [VRel] using h
  | .string _, v, _, h => by simpa only [VRel] using h
  | .nilFunc, v, _, h => by simpa only [VRel] using h
  | .nilIface, v, _, h => by simpa only [VRel] using h
theorem noAddrs_eq : ∀ {u v : Array Value}, noAddrs u = true → VRels ν u v → v = u
  | ⟨x⟩, y, h, k => by
    simp only [noAddrs] at h
    simp only [VRels] at k
    have := noAddrl_eq h k
    cases y
    simp only at this
    rw [this]
theorem noAddrl_eq : ∀ {u v : List Value}, noAddrl u = true → VRell ν u v → v = u
  | [], v, _, k => by simpa only [VRell] using k
  | a :: x, v, h, k => by
    simp only [noAddrl, Bool.and_eq_true] at h
    obtain ⟨b, y, rfl, k1, k2⟩ := k
    rw [noAddr_eq h.1 k1, noAddrl_eq h.2 k2]
end
end

/-- No name of a run lies from here on. -/
def BIG : Nat := 1152921504606846976

/-- The value, and what was put off. -/
def outOf (r : Option (CR × S)) : Option (Value × List Prop) := match r with
  | some (.ok v, s) => some (v, s.obl)
  | _ => none

theorem off_calls {E E' : Env} {w : World} (hE : E.Ok (start0 E.P w)) (hoff : E'.off = true) (hP : E'.P = E.P) (ho : OrcRf E E') {k : Nat} {f : FuncId} {args : Array Value} {v : Value} {obl : List Prop}
    (h : outOf (call E' k f args (st0 E.P)) = some (v, obl)) (ha : noAddrs args = true) (hv : noAddr v = true) (hh : ∀ o ∈ obl, o) :
    Calls E.P f args w fun e w' => e = .returned v ∧ Below w.heap.size w w' := by
  cases hc : call E' k f args (st0 E.P) with
  | none => rw [hc] at h; simp [outOf] at h
  | some r =>
    obtain ⟨r, s'⟩ := r
    rw [hc] at h
    cases r with
    | error c => simp [outOf] at h
    | ok v' =>
      simp only [outOf, Option.some.injEq, Prod.mk.injEq] at h
      obtain ⟨rfl, rfl⟩ := h
      obtain ⟨t', hc', _⟩ := ((fns_rf hE.on hoff hP ho k).call f args _ _ _ _ (Eqv.refl _) hc).2 hh
      refine ((sound hE k).call f args _ _ t' hc' (nu0 E.P) w args (Ctx.start (gok0 _) (rows0 _ _)) (r0 _ _) (noAddrs_rel ha) (fresh0 _ _)).mono ?_
      rintro e w' ⟨ν', hp, hm⟩
      cases e with
      | returned v'' => 
        simp only at hm
        rw [noAddr_eq hv hm]
        exact ⟨rfl, hp.2.os, hp.2.tape, hp.2.output, hp.2.size, fun r hr => hp.2.keep r hr (own0 _ _)⟩
      | panicked c => exact hm.elim
      | outgrown => exact hm.elim

theorem orcs_rf {E E' : Env} {l : List (FuncId × (Array Value → M Value) × (Array Value → M Value))} (h : E.orc = orcs (l.map fun x => (x.1, x.2.1))) (h' : E'.orc = orcs (l.map fun x => (x.1, x.2.2)))
    (hl : ∀ x ∈ l, ∀ args, Rf (x.2.1 args) (x.2.2 args)) : OrcRf E E' := by
  intro f
  rw [h, h']
  clear h h'
  induction l with
  | nil => rfl
  | cons x l ih =>
    simp only [List.map_cons, orcs]
    by_cases e : f = x.1
    · rw [if_pos e, if_pos e]
      exact ⟨_, rfl, hl x (by simp)⟩
    · rw [if_neg e, if_neg e]
      exact ih fun y hy => hl y (List.mem_cons_of_mem _ hy)
end Go.Dee
