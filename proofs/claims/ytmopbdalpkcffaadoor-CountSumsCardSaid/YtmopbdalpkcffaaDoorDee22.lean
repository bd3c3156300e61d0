/- Dee, part 22: a run of a piece of code as a rule of the kit's calculus. -/
import Derived.Test.YtmopbdalpkcffaaDoorDee21
namespace Go.Dee
open Go Go.RowKit

theorem at_fat (b : Frame) (a : Act) (todo : List Item) : b.at a todo = fat b.fn b.kind none a todo := rfl

theorem Post.same {P : Program} {ν ν' : Nm} {s s' t' : S} {w w' : World} (h : Post P ν s w ν' t' w') (k : Same t' s') : Post P ν s w ν' s' w' :=
  ⟨h.1.same k, h.2.trans (Fr.same w' k)⟩
theorem Ctx.same {E : Env} {c : Start} {ν : Nm} {s t : S} {w : World} (h : Ctx E c ν s w) (k : Same s t) : Ctx E c ν t w := h.step (Fr.same w k)

theorem dee_wp {E E' : Env} {c : Start} (hE : E.Ok c) (hoff : E'.off = true) (hP : E'.P = E.P) (ho : OrcRf E E') {k : Nat} {code : Code} {a : Act} {s : S} {ν : Nm} {w : World} {b : Act} (hg : Ctx E c ν s w) (hR : R E.P ν s w) (hT : TRel ν a b)
    (hF : Fresh ν s.n BIG) {Q : Exit → Act → World → Prop}
    (hrun : ∀ fn, ∃ e a' s', exec E' k fn none code a s = some ((e, a'), s') ∧ Held s' ∧ s'.n ≤ BIG ∧
      ∀ ν' w' b', Post E.P ν s w ν' s' w' → TRel ν' a' b' → match e with
      | .norm => Q .normal b' w'
      | .exit id => Q (.exit id) b' w'
      | .ret => Q .ret b' w'
      | _ => False) : code.wp E.P Q b w := by
  intro b0 kk cs
  obtain ⟨e, a', s', hrun, hh, hn, hQ⟩ := hrun b0.fn
  obtain ⟨t', h1, he⟩ := ((fns_rf hE.on hoff hP ho k).exec b0.fn none code a _ _ _ _ (Eqv.refl _) hrun).2 hh
  obtain ⟨ν', w', b', harr, hp, hT'⟩ := (sound hE k).exec b0.fn none code a s e a' t' h1 ν w b none b0.kind kk cs _ hg hR hT (hF.sub (Nat.le_refl _) (by rw [← he.n] at hn; exact hn)) rfl (.inl rfl)
  have hS : Same t' s' := he.same.symm
  have hq := hQ ν' w' b' (hp.same hS) hT'
  cases e with
  | norm => exact ⟨.normal, b', w', hq, harr⟩
  | exit id =>
    obtain ⟨k', hk, hs⟩ := harr
    refine ⟨.exit id, b', w', hq, fun k2 h2 => hs.trans (.one (m_exit ?_))⟩
    rw [hk]; exact h2
  | ret =>
    obtain ⟨k', hs⟩ := harr
    exact ⟨.ret, b', w', hq, _, hs.trans (.one m_ret)⟩
  | goto l => exact hq.elim
  | panic ch => exact hq.elim
end Go.Dee
