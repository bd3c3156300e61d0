/- The law's own function: its run. -/
import Derived.Test.YtmopbdalpkcffaaDoorCsTop
namespace Go.Proofs.YtmopbdalpkcffaaDoor
open Go Go.Dee Go.RowKit Go.Proofs
noncomputable def lst : List (FuncId × (Array Value → M Value) × (Array Value → M Value)) :=
  [(4, oOn yes fAlive, oOff yes fAlive), (5, oSum sumS, uSum sumS), (6, oSum refS, uSum refS), (7, oOn yes fLess, oOff yes fLess), (8, oOn yes fRefLess, oOff yes fRefLess), (9, oOn cAll fLine, oOff cAll fLine), (10, oOn cAll fLine, oOff cAll fLine)]
noncomputable def envB : Env := { P := Tryd.prog, orc := orcs (lst.map fun x => (x.1, x.2.1)) }
noncomputable def envV : Env := { P := Tryd.prog, orc := orcs (lst.map fun x => (x.1, x.2.2)), off := true }
theorem envBV : OrcRf envB envV := by
  refine orcs_rf (l := lst) rfl rfl fun x hx => ?_
  simp only [lst, List.mem_cons, List.not_mem_nil, or_false] at hx
  rcases hx with rfl | rfl | rfl | rfl | rfl | rfl | rfl
  · exact oOn_rf _ _
  · exact oSum_rf _
  · exact oSum_rf _
  · exact oOn_rf _ _
  · exact oOn_rf _ _
  · exact oOn_rf _ _
  · exact oOn_rf _ _
set_option maxRecDepth 100000 in
theorem nil5 : outOf (call envU 3000 5 #[.slice none 0 0] (st0 Tryd.prog)) = some (tal fun _ => 0, []) := by kernel_rfl
set_option maxRecDepth 100000 in
theorem nil6 : outOf (call envU 3000 6 #[.slice none 0 0] (st0 Tryd.prog)) = some (tal fun _ => 0, []) := by kernel_rfl
theorem envB_ok {c : Dee.Start} (hcl : NoOwn c) (htab : Tab c.w) : envB.Ok c := by
  have hB : ∀ ν s w, Ctx envB c ν s w → Tab w := fun ν s w h => Lib.tabBelow_of_tabIs htab w (h.below hcl)
  refine orcs_ok (l := lst.map fun x => (x.1, x.2.1)) rfl (by kernel_rfl) rfl fun x hx => ?_
  simp only [lst, List.map_cons, List.map_nil, List.mem_cons, List.not_mem_nil, or_false] at hx
  rcases hx with rfl | rfl | rfl | rfl | rfl | rfl | rfl
  · exact ⟨oOn_lcl _ _, oOn_ok hB owes_alive⟩
  · exact ⟨oSum_lcl _, oSum_ok hcl rfl htab (fun w hw => run_calls w hw nil5 rfl (tal_plain _) noObl) fun w hw X n L h1 h2 => sum_calls w hw h1 h2⟩
  · exact ⟨oSum_lcl _, oSum_ok hcl rfl htab (fun w hw => run_calls w hw nil6 rfl (tal_plain _) noObl) fun w hw X n L h1 h2 => refSum_calls w hw h1 h2⟩
  · exact ⟨oOn_lcl _ _, oOn_ok hB owes_less⟩
  · exact ⟨oOn_lcl _ _, oOn_ok hB owes_refLess⟩
  · exact ⟨oOn_lcl _ _, oOn_ok hB owes_line⟩
  · exact ⟨oOn_lcl _ _, oOn_ok hB owes_refLine⟩
noncomputable def c3 : Code := bodyOf 3
def vO (r : Option (Value × List Prop)) : List Prop := match r with | some (_, l) => l | none => []
def vV (r : Option (Value × List Prop)) : Value := match r with | some (v, _) => v | none => .nilFunc
noncomputable def run3 (X : Nat → Nat → Int) (n : Nat) (x : Nat → Int) (d : Nat → Value) (fn : FuncId) (sy : List (Nat × Bool)) :=
  retView Tryd.prog Tryd.f3 (exec envV 3000 fn none c3 ⟨(fill d 0 (slots [arg n, tal x] 50)).toArray, []⟩ { stX Tryd.prog [xd X n] with say := sy })
noncomputable def big3 (n : Nat) (d : Bool) : Prop := CmpIs Tryd.prog .gtr 3 (.tmp 7) (.const (.int .i64 60)) (.int .i64 n) (.int .i64 60) d
set_option maxRecDepth 100000 in
theorem long3 (X : Nat → Nat → Int) (n : Nat) (x : Nat → Int) (d : Nat → Value) (fn : FuncId) : run3 X n x d fn [(0, true)] = some (.bool true, [True, big3 n true]) := by kernel_rfl
set_option maxRecDepth 100000 in
theorem short3 (X : Nat → Nat → Int) (n : Nat) (x : Nat → Int) (d : Nat → Value) (fn : FuncId) : vV (run3 X n x d fn [(0, false), (0, true), (0, true), (0, true), (0, true), (0, true)]) = .bool true := by kernel_rfl
end Go.Proofs.YtmopbdalpkcffaaDoor
